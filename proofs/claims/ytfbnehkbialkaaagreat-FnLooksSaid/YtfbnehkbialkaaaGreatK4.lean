/- The plain law of FnLooks, part 4: angles, lists of looks, what is seen. -/
import Derived.Test.YtfbnehkbialkaaaGreatK1
namespace Go.Proofs.YtfbnehkbialkaaaGreat
open Ieee
set_option linter.unusedVariables false
set_option linter.unusedSimpArgs false

/-- Two loops whose rounds do the same where an invariant holds. -/
theorem loop_twins {σ ρ : Type} [Inhabited ρ] {step step' : σ → Round σ ρ} (inv : σ → Prop) (μ : σ → Nat) (post : ρ → Prop) (h : ∀ s, inv s → ∃ o fl fl', (step s).get = some (o, fl) ∧ (step' s).get = some (o, fl') ∧ match o with
    | .inl s' => inv s' ∧ μ s' < μ s
    | .inr r => post r) (s : σ) (hs : inv s) : loopEnds step s = true ∧ loopEnds step' s = true ∧ loopVal step' s = loopVal step s ∧ post (loopVal step s) := by
  have key : ∃ k r, iter step k s = some r ∧ iter step' k s = some r ∧ post r := by
    generalize hm : μ s = m
    induction m using Nat.strongRecOn generalizing s with
    | _ m ih =>
      obtain ⟨o, fl, fl', ho, ho', hc⟩ := h s hs
      cases o with
      | inl s' =>
        obtain ⟨k, r, hk, hk', hp⟩ := ih (μ s') (by rw [← hm]; exact hc.2) s' hc.1 rfl
        exact ⟨k + 1, r, by simp only [iter, ho]; exact hk, by simp only [iter, ho']; exact hk', hp⟩
      | inr r => exact ⟨1, r, by simp only [iter, ho], by simp only [iter, ho'], hc⟩
  obtain ⟨k, r, hk, hk', hp⟩ := key
  obtain ⟨h1, h2⟩ := loopVal_eq hk
  obtain ⟨h3, h4⟩ := loopVal_eq hk'
  exact ⟨h2, h4, by rw [h1, h3], by rw [h1]; exact hp⟩

/-! ## Sines and cosines -/

theorem k_52 : isNum .f64 4841369599423283200 = true ∧ 1000 ≤ R .f64 4841369599423283200 ∧ isNum .f64 14064741636278059008 = true ∧ R .f64 14064741636278059008 ≤ -1000 := by decide +kernel

theorem sine_both {x : Nat} {a b : Rat} (h : I .f64 x (some (a, b))) (h1 : -900 ≤ a) (h2 : b ≤ 900) : spec_l01SineWide_need x = true ∧ spec_l01SineWide x = impl_sine x ∧ isNum .f64 (impl_sine x) = true ∧ Bd (R .f64 (impl_sine x)) (1000001 / 1000000) := by
  obtain ⟨k1, k2, k3, k4⟩ := k_52
  have hx := h.2
  obtain ⟨s1, s2⟩ := spec_sine_eq h.1 (by rw [fge_R h.1 k1]; exact decide_eq_false (by grind)) (by rw [fle_R h.1 k3]; exact decide_eq_false (by grind))
  have hI : I .f64 x (some (-900, 900)) := h.mono h1 h2
  have b1 : Bd (R .f64 x) 4503599627370495 := by have := hI.2; unfold Bd; constructor <;> grind
  obtain ⟨c1, -, -, c4, -⟩ := circ_P hI
  refine ⟨s1, ?_, c1, c4⟩
  rw [s2, impl_sine_eq, impl_behind_eq (sm52 h.1 b1)]

theorem cos_both {x : Nat} {a b : Rat} (h : I .f64 x (some (a, b))) (h1 : -800 ≤ a) (h2 : b ≤ 800) : spec_l03Cos_need x = true ∧ spec_l03Cos x = impl_cosine x ∧ isNum .f64 (impl_cosine x) = true ∧ Bd (R .f64 (impl_cosine x)) (1000001 / 1000000) := by
  have y := (I.add (h.mono h1 h2) k_quarter).to (lo := -900) (hi := 900) (by decide +kernel)
  obtain ⟨s1, s2, -, -⟩ := sine_both y (by decide +kernel) (by decide +kernel)
  obtain ⟨-, c1, -, -, c4⟩ := circ_P (h.mono (lo := -900) (hi := 900) (by grind) (by grind))
  refine ⟨?_, ?_, c1, c4⟩
  · unfold spec_l03Cos_need spec_l03Cos_tree
    simp only [DT.ok, s1]
  · unfold spec_l03Cos spec_l03Cos_tree
    simp only [DT.val, s2]
    rfl

/-! ## Swings -/

theorem wrap_same (x : Nat) : spec_l03Wrap x = impl_wrap x := rfl

theorem swing_both {e f : Nat} : impl_swing_need e f = true ∧ spec_l03Swing_need e f = true ∧ spec_l03Swing e f = impl_swing e f ∧ I .f64 (impl_swing e f) (some (-1 / 10000000, 1 + 1 / 10000000)) := by
  have key := loop_twins (step := impl_swing_loop0_step (e, impl_wrap f)) (step' := spec_l03Swing_loop0_step (e, impl_wrap f)) (fun s => ∃ k : Nat, k ≤ 50 ∧ s.2.2 = (k : Int) ∧ I .f64 s.1 (some (-((k : Rat) / 1000000000), 1 + (k : Rat) / 1000000000)) ∧ I .f64 s.2.1 (some (-((k : Rat) / 1000000000), 1 + (k : Rat) / 1000000000)))
    (fun s => (50 - s.2.2).toNat) (fun r => I .f64 r (some (-1 / 10000000, 1 + 1 / 10000000))) (by
    rintro ⟨x, y, n⟩ ⟨k, hk, hn, hx, hy⟩
    simp only at hn hx hy
    subst hn
    have hkr : (k : Rat) ≤ 50 := by exact_mod_cast hk
    have hk0 : (0 : Rat) ≤ k := by exact_mod_cast Nat.zero_le k
    rcases Nat.lt_or_ge k 50 with hlt | hge
    · have hd : decide (((k : Nat) : Int) < 50) = true := decide_eq_true (by omega)
      have hw : IntKind.wrap .i64 (((k : Nat) : Int) + 1) = ((k + 1 : Nat) : Int) := nat_next hlt (by decide)
      obtain ⟨m1, m2⟩ := half_R (hx.mono (by grind) (by grind)) (hy.mono (by grind) (by grind))
      have hm : I .f64 (fdiv .f64 (fadd .f64 x y) 4611686018427387904) (some (-(((k + 1 : Nat) : Rat) / 1000000000), 1 + ((k + 1 : Nat) : Rat) / 1000000000)) := by
        have g1 := hx.2.1
        have g2 := hx.2.2
        have g3 := hy.2.1
        have g4 := hy.2.2
        unfold Nr at m2
        push_cast
        exact ⟨m1, by grind, by grind⟩
      have hx' : I .f64 x (some (-(((k + 1 : Nat) : Rat) / 1000000000), 1 + ((k + 1 : Nat) : Rat) / 1000000000)) := hx.mono (by push_cast; grind) (by push_cast; grind)
      have hy' : I .f64 y (some (-(((k + 1 : Nat) : Rat) / 1000000000), 1 + ((k + 1 : Nat) : Rat) / 1000000000)) := hy.mono (by push_cast; grind) (by push_cast; grind)
      obtain ⟨s1, s2, -, -⟩ := sine_both hm (by push_cast; grind) (by push_cast; grind)
      have e1 : spec_l03SwingPhase_need e (fdiv .f64 (fadd .f64 x y) 4611686018427387904) = true := by
        unfold spec_l03SwingPhase_need spec_l03SwingPhase_tree
        simp only [DT.ok, s1]
      have e2 : spec_l03SwingPhase e (fdiv .f64 (fadd .f64 x y) 4611686018427387904) = impl_phaseOfSwing e (fdiv .f64 (fadd .f64 x y) 4611686018427387904) := by
        unfold spec_l03SwingPhase spec_l03SwingPhase_tree impl_phaseOfSwing impl_phaseOfSwing_tree
        simp only [DT.val, s2]
      cases hg : fgt .f64 (impl_phaseOfSwing e (fdiv .f64 (fadd .f64 x y) 4611686018427387904)) (impl_wrap f) with
      | true =>
        refine ⟨.inl (x, fdiv .f64 (fadd .f64 x y) 4611686018427387904, ((k + 1 : Nat) : Int)), [], [], ?_, ?_, ⟨k + 1, hlt, rfl, hx', hm⟩, by show (50 - ((k + 1 : Nat) : Int)).toNat < (50 - ((k : Nat) : Int)).toNat; omega⟩
        · unfold impl_swing_loop0_step
          simp only [DT.get, hd, hg, hw]
        · unfold spec_l03Swing_loop0_step
          simp only [DT.get, hd, e1, e2, hg, hw]
      | false =>
        refine ⟨.inl (fdiv .f64 (fadd .f64 x y) 4611686018427387904, y, ((k + 1 : Nat) : Int)), [], [], ?_, ?_, ⟨k + 1, hlt, rfl, hm, hy'⟩, by show (50 - ((k + 1 : Nat) : Int)).toNat < (50 - ((k : Nat) : Int)).toNat; omega⟩
        · unfold impl_swing_loop0_step
          simp only [DT.get, hd, hg, hw]
        · unfold spec_l03Swing_loop0_step
          simp only [DT.get, hd, e1, e2, hg, hw]
    · have hd : decide (((k : Nat) : Int) < 50) = false := decide_eq_false (by omega)
      refine ⟨.inr x, [], [], ?_, ?_, hx.mono (by grind) (by grind)⟩
      · unfold impl_swing_loop0_step
        simp only [DT.get, hd]
      · unfold spec_l03Swing_loop0_step
        simp only [DT.get, hd]) (0, 4607182418800017408, 0) ⟨0, by decide, rfl, I.at (by decide +kernel), I.at (by decide +kernel)⟩
  obtain ⟨l1, l2, l3, l4⟩ := key
  have l1 : impl_swing_loop0_ends (e, impl_wrap f) (0, 4607182418800017408, 0) = true := l1
  have l2 : spec_l03Swing_loop0_ends (e, impl_wrap f) (0, 4607182418800017408, 0) = true := l2
  have l3 : spec_l03Swing_loop0 (e, impl_wrap f) (0, 4607182418800017408, 0) = impl_swing_loop0 (e, impl_wrap f) (0, 4607182418800017408, 0) := l3
  unfold impl_swing_need impl_swing impl_swing_tree spec_l03Swing_need spec_l03Swing spec_l03Swing_tree
  simp only [DT.ok, DT.val, wrap_same, l1, l2, l3]
  exact ⟨trivial, trivial, trivial, l4⟩

/-! ## Powers -/

theorem k_200 : isNum .f64 4641240890982006784 = true ∧ R .f64 4641240890982006784 = 200 ∧ isNum .f64 13864612927836782592 = true ∧ R .f64 13864612927836782592 = -200 := by decide +kernel

theorem expo_both {x : Nat} (h : I .f64 x (some (-101 / 10, 101 / 10))) : impl_exponential x = expoN x ∧ spec_l01ExpWide x = expoN x := by
  obtain ⟨k1, k2, k3, k4⟩ := k_200
  have hx := h.2
  have a1 : fgt .f64 x 4641240890982006784 = false := by rw [fgt_R h.1 k1, k2]; exact decide_eq_false (by grind)
  have a2 : flt .f64 x 13864612927836782592 = false := by rw [flt_R h.1 k3, k4]; exact decide_eq_false (by grind)
  have a3 : fne .f64 x x = false := by rw [fne_self, num_nan h.1]
  constructor
  · unfold impl_exponential impl_exponential_tree
    simp only [DT.val, a1, a2]
    rfl
  · unfold spec_l01ExpWide spec_l01ExpWide_tree
    simp only [DT.val, a1, a2, a3]
    rfl

theorem neg_I10 {x : Nat} (h : I .f64 x (some (-101 / 10, 101 / 10))) : I .f64 (fneg .f64 x) (some (-101 / 10, 101 / 10)) := by
  obtain ⟨n1, n2⟩ := R_neg h.1
  have hx := h.2
  exact ⟨n1, by rw [n2]; grind, by rw [n2]; grind⟩

/-- Half of the difference and of the sum of powers, the program's and the reference's. -/
theorem halves {x : Nat} (h : I .f64 x (some (-101 / 10, 101 / 10))) : spec_l03Sinh x = impl_halfDifference x ∧ spec_l03Cosh x = impl_halfSum x ∧ I .f64 (impl_halfDifference x) (some (-20000, 20000)) ∧ I .f64 (impl_halfSum x) (some (94 / 100, 31000)) := by
  obtain ⟨p1, p2⟩ := expo_both h
  obtain ⟨m1, m2⟩ := expo_both (neg_I10 h)
  obtain ⟨b1, b2, b3⟩ := both_powers h
  have d := (I.sub b1 b2).to (lo := -30010) (hi := 30010) (by decide +kernel)
  have s := (I.add b1 b2).to (lo := -1) (hi := 60100) (by decide +kernel)
  have d2 := (I.div d k_two).to (lo := -20000) (hi := 20000) (by decide +kernel)
  have hG := Gr_ge
  have hT := T_le
  have q1 := b1.2
  have q2 := b2.2
  have bs : Bd (R .f64 (expoN x) + R .f64 (expoN (fneg .f64 x))) 60000 := by unfold Bd; constructor <;> grind
  have f := (fadd_fl b1.1 b2.1 (bs.mono (by grind))).err64 bs
  have s' : I .f64 (fadd .f64 (expoN x) (expoN (fneg .f64 x))) (some (189 / 100, 60100)) := ⟨s.1, by unfold Nr at f; grind, s.2.2⟩
  have s2 := (I.div s' k_two).to (lo := 94 / 100) (hi := 31000) (by decide +kernel)
  have e1 : impl_halfDifference x = fdiv .f64 (fsub .f64 (expoN x) (expoN (fneg .f64 x))) 4611686018427387904 := by
    unfold impl_halfDifference impl_halfDifference_tree
    simp only [DT.val, p1, m1]
  have e2 : impl_halfSum x = fdiv .f64 (fadd .f64 (expoN x) (expoN (fneg .f64 x))) 4611686018427387904 := by
    unfold impl_halfSum impl_halfSum_tree
    simp only [DT.val, p1, m1]
  have e3 : spec_l03Sinh x = fmul .f64 4602678819172646912 (fsub .f64 (expoN x) (expoN (fneg .f64 x))) := by
    unfold spec_l03Sinh spec_l03Sinh_tree
    simp only [DT.val, p2, m2]
  have e4 : spec_l03Cosh x = fmul .f64 4602678819172646912 (fadd .f64 (expoN x) (expoN (fneg .f64 x))) := by
    unfold spec_l03Cosh spec_l03Cosh_tree
    simp only [DT.val, p2, m2]
  rw [e1, e2, e3, e4, half_same64 d.1, half_same64 s.1]
  rw [half_same64 d.1] at d2
  rw [half_same64 s.1] at s2
  exact ⟨rfl, rfl, d2, s2⟩

/-! ## Leans -/

theorem half_R11 {x y : Nat} (hx : I .f64 x (some (-11, 11))) (hy : I .f64 y (some (-11, 11))) : isNum .f64 (fdiv .f64 (fadd .f64 x y) 4611686018427387904) = true ∧ Nr (R .f64 (fdiv .f64 (fadd .f64 x y) 4611686018427387904)) ((R .f64 x + R .f64 y) / 2) (1 / 1000000000000) := by
  have hG := Gr_ge
  have ht := T_le
  obtain ⟨x1, x2, x3⟩ := hx
  obtain ⟨y1, y2, y3⟩ := hy
  have b1 : Bd (R .f64 x + R .f64 y) 22 := by unfold Bd; constructor <;> grind
  have f := fadd_fl x1 y1 (b1.mono (by grind))
  have e := f.err64 b1
  have k2 := k_two
  have e2 : R .f64 4611686018427387904 = 2 := by have := k2.2.1; have := k2.2.2; grind
  have b2 := e.toBd b1
  obtain ⟨q1, q2⟩ := quot_fl (X := R .f64 (fadd .f64 x y) / 2) f.1 k2.1 (by rw [e2]; decide) (by rw [e2]; grind) (by unfold Bd at b2 ⊢; constructor <;> grind)
  have e3 := q2 12 (by unfold Bd at b2 ⊢; constructor <;> grind)
  have hU : U .f64 = 1 / 9007199254740992 := rfl
  rw [hU] at e3
  refine ⟨q1, ?_⟩
  unfold Nr at e e3 ⊢
  constructor <;> grind

theorem lean_both {e f : Nat} : impl_lean_need e f = true ∧ spec_l03Lean_need e f = true ∧ spec_l03Lean e f = impl_lean e f ∧ I .f64 (impl_lean e f) (some (-101 / 10, 101 / 10)) := by
  have key := loop_twins (step := impl_lean_loop0_step (e, fmul .f64 4618760256179416344 f)) (step' := spec_l03Lean_loop0_step (e, fmul .f64 4618760256179416344 f)) (fun s => ∃ k : Nat, k ≤ 60 ∧ s.2.2 = (k : Int) ∧ I .f64 s.1 (some (-10 - ((k : Rat) / 1000000000), 10 + (k : Rat) / 1000000000)) ∧ I .f64 s.2.1 (some (-10 - ((k : Rat) / 1000000000), 10 + (k : Rat) / 1000000000)))
    (fun s => (60 - s.2.2).toNat) (fun r => I .f64 r (some (-101 / 10, 101 / 10))) (by
    rintro ⟨x, y, n⟩ ⟨k, hk, hn, hx, hy⟩
    simp only at hn hx hy
    subst hn
    have hkr : (k : Rat) ≤ 60 := by exact_mod_cast hk
    have hk0 : (0 : Rat) ≤ k := by exact_mod_cast Nat.zero_le k
    rcases Nat.lt_or_ge k 60 with hlt | hge
    · have hd : decide (((k : Nat) : Int) < 60) = true := decide_eq_true (by omega)
      have hw : IntKind.wrap .i64 (((k : Nat) : Int) + 1) = ((k + 1 : Nat) : Int) := nat_next hlt (by decide)
      obtain ⟨m1, m2⟩ := half_R11 (hx.mono (by grind) (by grind)) (hy.mono (by grind) (by grind))
      have hm : I .f64 (fdiv .f64 (fadd .f64 x y) 4611686018427387904) (some (-10 - (((k + 1 : Nat) : Rat) / 1000000000), 10 + ((k + 1 : Nat) : Rat) / 1000000000)) := by
        have g1 := hx.2.1
        have g2 := hx.2.2
        have g3 := hy.2.1
        have g4 := hy.2.2
        unfold Nr at m2
        push_cast
        exact ⟨m1, by grind, by grind⟩
      have hx' : I .f64 x (some (-10 - (((k + 1 : Nat) : Rat) / 1000000000), 10 + ((k + 1 : Nat) : Rat) / 1000000000)) := hx.mono (by push_cast; grind) (by push_cast; grind)
      have hy' : I .f64 y (some (-10 - (((k + 1 : Nat) : Rat) / 1000000000), 10 + ((k + 1 : Nat) : Rat) / 1000000000)) := hy.mono (by push_cast; grind) (by push_cast; grind)
      obtain ⟨s1, -, -, -⟩ := halves (hm.mono (lo := -101 / 10) (hi := 101 / 10) (by push_cast; grind) (by push_cast; grind))
      have e2 : spec_l03LeanSize e (fdiv .f64 (fadd .f64 x y) 4611686018427387904) = fsub .f64 (fmul .f64 e (impl_halfDifference (fdiv .f64 (fadd .f64 x y) 4611686018427387904))) (fdiv .f64 (fadd .f64 x y) 4611686018427387904) := by
        unfold spec_l03LeanSize spec_l03LeanSize_tree
        simp only [DT.val, s1]
      cases hg : fgt .f64 (fsub .f64 (fmul .f64 e (impl_halfDifference (fdiv .f64 (fadd .f64 x y) 4611686018427387904))) (fdiv .f64 (fadd .f64 x y) 4611686018427387904)) (fmul .f64 4618760256179416344 f) with
      | true =>
        refine ⟨.inl (x, fdiv .f64 (fadd .f64 x y) 4611686018427387904, ((k + 1 : Nat) : Int)), [], [], ?_, ?_, ⟨k + 1, hlt, rfl, hx', hm⟩, by show (60 - ((k + 1 : Nat) : Int)).toNat < (60 - ((k : Nat) : Int)).toNat; omega⟩
        · unfold impl_lean_loop0_step
          simp only [DT.get, hd, hg, hw]
        · unfold spec_l03Lean_loop0_step
          simp only [DT.get, hd, e2, hg, hw]
      | false =>
        refine ⟨.inl (fdiv .f64 (fadd .f64 x y) 4611686018427387904, y, ((k + 1 : Nat) : Int)), [], [], ?_, ?_, ⟨k + 1, hlt, rfl, hm, hy'⟩, by show (60 - ((k + 1 : Nat) : Int)).toNat < (60 - ((k : Nat) : Int)).toNat; omega⟩
        · unfold impl_lean_loop0_step
          simp only [DT.get, hd, hg, hw]
        · unfold spec_l03Lean_loop0_step
          simp only [DT.get, hd, e2, hg, hw]
    · have hd : decide (((k : Nat) : Int) < 60) = false := decide_eq_false (by omega)
      refine ⟨.inr x, [], [], ?_, ?_, hx.mono (by grind) (by grind)⟩
      · unfold impl_lean_loop0_step
        simp only [DT.get, hd]
      · unfold spec_l03Lean_loop0_step
        simp only [DT.get, hd]) (13845191154443747328, 4621819117588971520, 0) ⟨0, by decide, rfl, I.at (by decide +kernel), I.at (by decide +kernel)⟩
  obtain ⟨l1, l2, l3, l4⟩ := key
  have l1 : impl_lean_loop0_ends (e, fmul .f64 4618760256179416344 f) (13845191154443747328, 4621819117588971520, 0) = true := l1
  have l2 : spec_l03Lean_loop0_ends (e, fmul .f64 4618760256179416344 f) (13845191154443747328, 4621819117588971520, 0) = true := l2
  have l3 : spec_l03Lean_loop0 (e, fmul .f64 4618760256179416344 f) (13845191154443747328, 4621819117588971520, 0) = impl_lean_loop0 (e, fmul .f64 4618760256179416344 f) (13845191154443747328, 4621819117588971520, 0) := l3
  unfold impl_lean_need impl_lean impl_lean_tree spec_l03Lean_need spec_l03Lean spec_l03Lean_tree
  simp only [DT.ok, DT.val, l1, l2, l3]
  exact ⟨trivial, trivial, trivial, l4⟩

/-- A drawn orbit, or a later one: the phase of a branch is at most P. -/
structure OrbL (o : Orbit) (P : Rat) : Prop where
  ok : validO o = true
  tilt : I .f32 o.Tilt (some (0, 1))
  node : I .f32 o.Node (some (0, 1))
  peri : I .f32 o.Peri (some (0, 1))
  kind : (I .f32 o.Long (some (1 / 4, 4)) ∧ I .f32 o.Round (some (0, 7 / 8)) ∧ I .f32 o.Phase (some (0, 1))) ∨ (I .f32 o.Long (some (-4, -1 / 4)) ∧ I .f32 o.Round (some (5 / 4, 3)) ∧ I .f32 o.Phase (some (-P, P)))

theorem abs_neg {x : Nat} {a b : Rat} (h : I .f64 x (some (a, b))) (hb : b ≤ 0) : I .f64 (math_Abs x) (some (-b, -a)) := by
  rw [math_Abs_eq (num_nan h.1)]
  obtain ⟨f1, -, f3⟩ := fabs_R h.1
  have h2 := h.2
  exact ⟨f1, by rw [f3 (by grind)]; grind, by rw [f3 (by grind)]; grind⟩

theorem OrbL.long {o : Orbit} {P : Rat} (h : OrbL o P) : I .f64 (math_Abs (fconv .f32 o.Long .f64)) (some (1 / 4, 4)) := by
  rcases h.kind with ⟨k, -, -⟩ | ⟨k, -, -⟩
  · exact abs_R k.up (by decide +kernel)
  · exact (abs_neg k.up (by decide +kernel)).mono (by decide +kernel) (by decide +kernel)

theorem sqrt_eta (x : Nat) : math_Sqrt x = fsqrt x := rfl

theorem rate_L {o : Orbit} {m : Nat} {P : Rat} (h : OrbL o P) (hm : I .f32 m (some (1 / 2, 4))) : impl_Orbit_rate_need o (fconv .f32 m .f64) = true ∧ spec_l03Rate_need o m = true ∧ spec_l03Rate o m = impl_Orbit_rate o (fconv .f32 m .f64) ∧ I .f64 (impl_Orbit_rate o (fconv .f32 m .f64)) (some (8 / 100, 17)) := by
  have a := h.long
  have a2 := (I.sq a).to (lo := 62 / 1000) (hi := 161 / 10) (by decide +kernel)
  have a3 := (I.mul a2 a).to (lo := 154 / 10000) (hi := 645 / 10) (by decide +kernel)
  have q := (I.div hm.up a3).to (lo := 75 / 10000) (hi := 261) (by decide +kernel)
  have s := (I.sqrt (86 / 1000) (1616 / 100) q).to (lo := 8 / 100) (hi := 17) (by decide +kernel)
  unfold impl_Orbit_rate_need impl_Orbit_rate impl_Orbit_rate_tree spec_l03Rate_need spec_l03Rate spec_l03Rate_tree
  simp only [DT.ok, DT.val, fconvOk_up, sqrt_eta]
  exact ⟨trivial, trivial, trivial, s⟩

/-- The last steps of a plane: the same for ellipses and branches. -/
theorem plane_bd {a n q s c k first : Nat} (ha : I .f64 a (some (1 / 4, 4))) (hn : I .f64 n (some (8 / 100, 17))) (hs : I .f64 s (some (-20000, 20000))) (hc : I .f64 c (some (-31000, 31000))) (hq : I .f64 q (some (0, 3))) (hk : I .f64 k (some (11 / 100, 100000))) (he : I .f64 first (some (-32000, 32000))) :
    I .f64 (fmul .f64 a first) (some (-100000000, 100000000)) ∧ I .f64 (fmul .f64 (fmul .f64 a q) s) (some (-100000000, 100000000)) ∧ I .f64 (fneg .f64 (fdiv .f64 (fmul .f64 (fmul .f64 a n) s) k)) (some (-100000000, 100000000)) ∧ I .f64 (fdiv .f64 (fmul .f64 (fmul .f64 (fmul .f64 a n) q) c) k) (some (-100000000, 100000000)) := by
  have an := (I.mul ha hn).to (lo := 0) (hi := 69) (by decide +kernel)
  have aq := (I.mul ha hq).to (lo := -1) (hi := 13) (by decide +kernel)
  have anq := (I.mul an hq).to (lo := -1) (hi := 208) (by decide +kernel)
  exact ⟨(I.mul ha he).to (by decide +kernel), (I.mul aq hs).to (by decide +kernel), (I.neg (I.div (I.mul an hs) hk)).to (by decide +kernel), (I.div (I.mul anq hc) hk).to (by decide +kernel)⟩

theorem ellipse_same (o : Orbit) : spec_l03Ellipse o = fgt .f32 o.Long 0 := rfl

def Big : Iv := some (-100000000, 100000000)

theorem plane_L {o : Orbit} {m : Nat} {P : Rat} (h : OrbL o P) (hm : I .f32 m (some (1 / 2, 4))) : impl_Orbit_plane_need o (fconv .f32 m .f64) = true ∧ spec_l03Plane_need o m = true ∧ ∃ a b c d, impl_Orbit_plane o (fconv .f32 m .f64) = (a, b, c, d) ∧ spec_l03Plane o m = (a, b, c, d) ∧ I .f64 a Big ∧ I .f64 b Big ∧ I .f64 c Big ∧ I .f64 d Big := by
  obtain ⟨r1, r2, r3, r4⟩ := rate_L h hm
  have hl := h.long
  have hv : (⟨o.Long, o.Round, o.Tilt, o.Node, o.Peri, o.Phase⟩ : Orbit) = o := rfl
  rcases h.kind with ⟨kl, kr, kp⟩ | ⟨kl, kr, kp⟩
  · have hgt : fgt .f32 o.Long 0 = true := I.gt kl k_zero32 (by decide +kernel)
    obtain ⟨w1, w2, w3, w4⟩ := swing_both (e := fconv .f32 o.Round .f64) (f := fconv .f32 o.Phase .f64)
    obtain ⟨s1, s2, s3, s4⟩ := sine_both w4 (by decide +kernel) (by decide +kernel)
    obtain ⟨c1, c2, c3, c4⟩ := cos_both w4 (by decide +kernel) (by decide +kernel)
    unfold Bd at s4 c4
    have e := kr.up
    have hs : I .f64 (impl_sine (impl_swing (fconv .f32 o.Round .f64) (fconv .f32 o.Phase .f64))) (some (-1000001 / 1000000, 1000001 / 1000000)) := ⟨s3, by grind, by grind⟩
    have hc : I .f64 (impl_cosine (impl_swing (fconv .f32 o.Round .f64) (fconv .f32 o.Phase .f64))) (some (-1000001 / 1000000, 1000001 / 1000000)) := ⟨c3, by grind, by grind⟩
    have hk := (I.sub k_one (I.mul e hc)).to (lo := 11 / 100) (hi := 100000) (by decide +kernel)
    have hqq := (I.sub k_one (I.sq e)).to (lo := 22 / 100) (hi := 101 / 100) (by decide +kernel)
    have hq := (I.sqrt (4 / 10) (101 / 100) hqq).to (lo := 0) (hi := 3) (by decide +kernel)
    have hf := (I.sub hc e).to (lo := -32000) (hi := 32000) (by decide +kernel)
    obtain ⟨b1, b2, b3, b4⟩ := plane_bd hl r4 (hs.mono (lo := -20000) (hi := 20000) (by decide +kernel) (by decide +kernel)) (hc.mono (lo := -31000) (hi := 31000) (by decide +kernel) (by decide +kernel)) hq hk hf
    refine ⟨?_, ?_, _, _, _, _, ?_, ?_, b1, b2, b3, b4⟩
    · unfold impl_Orbit_plane_need impl_Orbit_plane_tree
      simp only [DT.ok, fconvOk_up, hv, r1, hgt, w1]
    · unfold spec_l03Plane_need spec_l03Plane_tree
      simp only [DT.ok, fconvOk_up, hv, r2, ellipse_same, hgt, w2, w3, s1, c1]
    · unfold impl_Orbit_plane impl_Orbit_plane_tree
      simp only [DT.val, hv, hgt, sqrt_eta]
    · unfold spec_l03Plane spec_l03Plane_tree
      simp only [DT.val, hv, ellipse_same, hgt, sqrt_eta, r3, w3, s2, c2]
  · have hgt : fgt .f32 o.Long 0 = false := I.not_gt kl k_zero32 (by decide +kernel)
    obtain ⟨w1, w2, w3, w4⟩ := lean_both (e := fconv .f32 o.Round .f64) (f := fconv .f32 o.Phase .f64)
    obtain ⟨h1, h2, h3, h4⟩ := halves w4
    have e := kr.up
    have hk := (I.sub (I.mul e h4) k_one).to (lo := 11 / 100) (hi := 100000) (by decide +kernel)
    have hqq := (I.sub (I.sq e) k_one).to (lo := 56 / 100) (hi := 801 / 100) (by decide +kernel)
    have hq := (I.sqrt (7 / 10) (284 / 100) hqq).to (lo := 0) (hi := 3) (by decide +kernel)
    have hf := (I.sub e h4).to (lo := -32000) (hi := 32000) (by decide +kernel)
    obtain ⟨b1, b2, b3, b4⟩ := plane_bd hl r4 h3 (h4.mono (lo := -31000) (hi := 31000) (by decide +kernel) (by decide +kernel)) hq hk hf
    refine ⟨?_, ?_, _, _, _, _, ?_, ?_, b1, b2, b3, b4⟩
    · unfold impl_Orbit_plane_need impl_Orbit_plane_tree
      simp only [DT.ok, fconvOk_up, hv, r1, hgt, w1]
    · unfold spec_l03Plane_need spec_l03Plane_tree
      simp only [DT.ok, fconvOk_up, hv, r2, ellipse_same, hgt, w2]
    · unfold impl_Orbit_plane impl_Orbit_plane_tree
      simp only [DT.val, hv, hgt, sqrt_eta]
    · unfold spec_l03Plane spec_l03Plane_tree
      simp only [DT.val, hv, ellipse_same, hgt, sqrt_eta, r3, w3, h1, h2]

theorem turned_eq (o : Orbit) (u v : Nat) : impl_Orbit_turned o u v = ⟨fconv .f64 (fsub .f64 (fmul .f64 (fsub .f64 (fmul .f64 u (impl_cosine (fconv .f32 o.Peri .f64))) (fmul .f64 v (impl_sine (fconv .f32 o.Peri .f64)))) (impl_cosine (fconv .f32 o.Node .f64))) (fmul .f64 (fmul .f64 (fadd .f64 (fmul .f64 u (impl_sine (fconv .f32 o.Peri .f64))) (fmul .f64 v (impl_cosine (fconv .f32 o.Peri .f64)))) (impl_cosine (fconv .f32 o.Tilt .f64))) (impl_sine (fconv .f32 o.Node .f64)))) .f32,
      fconv .f64 (fadd .f64 (fmul .f64 (fsub .f64 (fmul .f64 u (impl_cosine (fconv .f32 o.Peri .f64))) (fmul .f64 v (impl_sine (fconv .f32 o.Peri .f64)))) (impl_sine (fconv .f32 o.Node .f64))) (fmul .f64 (fmul .f64 (fadd .f64 (fmul .f64 u (impl_sine (fconv .f32 o.Peri .f64))) (fmul .f64 v (impl_cosine (fconv .f32 o.Peri .f64)))) (impl_cosine (fconv .f32 o.Tilt .f64))) (impl_cosine (fconv .f32 o.Node .f64)))) .f32,
      fconv .f64 (fmul .f64 (fadd .f64 (fmul .f64 u (impl_sine (fconv .f32 o.Peri .f64))) (fmul .f64 v (impl_cosine (fconv .f32 o.Peri .f64)))) (impl_sine (fconv .f32 o.Tilt .f64))) .f32⟩ := by
  unfold impl_Orbit_turned impl_Orbit_turned_tree
  simp only [DT.val]

theorem turned_L {o : Orbit} {u v : Nat} {P : Rat} (h : OrbL o P) (hu : I .f64 u Big) (hv : I .f64 v Big) : impl_Orbit_turned_need o u v = true ∧ spec_l03Turned_need o u v = true ∧ ∃ x y z, spec_l03Turned o u v = (x, y, z) ∧ spec_l03Short_need x y z = true ∧ spec_l03Short x y z = impl_Orbit_turned o u v ∧ VecI (impl_Orbit_turned o u v) 1000000000 := by
  obtain ⟨ps1, ps2, ps3, ps4⟩ := sine_both h.peri.up (by decide +kernel) (by decide +kernel)
  obtain ⟨pc1, pc2, pc3, pc4⟩ := cos_both h.peri.up (by decide +kernel) (by decide +kernel)
  obtain ⟨ts1, ts2, ts3, ts4⟩ := sine_both h.tilt.up (by decide +kernel) (by decide +kernel)
  obtain ⟨tc1, tc2, tc3, tc4⟩ := cos_both h.tilt.up (by decide +kernel) (by decide +kernel)
  obtain ⟨ns1, ns2, ns3, ns4⟩ := sine_both h.node.up (by decide +kernel) (by decide +kernel)
  obtain ⟨nc1, nc2, nc3, nc4⟩ := cos_both h.node.up (by decide +kernel) (by decide +kernel)
  unfold Bd at ps4 pc4 ts4 tc4 ns4 nc4
  have ps : I .f64 (impl_sine (fconv .f32 o.Peri .f64)) (some (-1000001 / 1000000, 1000001 / 1000000)) := ⟨ps3, by grind, by grind⟩
  have pc : I .f64 (impl_cosine (fconv .f32 o.Peri .f64)) (some (-1000001 / 1000000, 1000001 / 1000000)) := ⟨pc3, by grind, by grind⟩
  have ts : I .f64 (impl_sine (fconv .f32 o.Tilt .f64)) (some (-1000001 / 1000000, 1000001 / 1000000)) := ⟨ts3, by grind, by grind⟩
  have tc : I .f64 (impl_cosine (fconv .f32 o.Tilt .f64)) (some (-1000001 / 1000000, 1000001 / 1000000)) := ⟨tc3, by grind, by grind⟩
  have ns : I .f64 (impl_sine (fconv .f32 o.Node .f64)) (some (-1000001 / 1000000, 1000001 / 1000000)) := ⟨ns3, by grind, by grind⟩
  have nc : I .f64 (impl_cosine (fconv .f32 o.Node .f64)) (some (-1000001 / 1000000, 1000001 / 1000000)) := ⟨nc3, by grind, by grind⟩
  have x6 := (I.sub (I.mul hu pc) (I.mul hv ps)).to (lo := -210000000) (hi := 210000000) (by decide +kernel)
  have x9 := (I.add (I.mul hu ps) (I.mul hv pc)).to (lo := -210000000) (hi := 210000000) (by decide +kernel)
  have x12 := (I.mul x9 tc).to (lo := -220000000) (hi := 220000000) (by decide +kernel)
  have x15 := (I.mul x9 ts).to (lo := -220000000) (hi := 220000000) (by decide +kernel)
  have x22 := (I.sub (I.mul x6 nc) (I.mul x12 ns)).to (lo := -900000000) (hi := 900000000) (by decide +kernel)
  have x26 := (I.add (I.mul x6 ns) (I.mul x12 nc)).to (lo := -900000000) (hi := 900000000) (by decide +kernel)
  have g1 := I.fits x22 (by decide +kernel) (by decide +kernel)
  have g2 := I.fits x26 (by decide +kernel) (by decide +kernel)
  have g3 := I.fits x15 (by decide +kernel) (by decide +kernel)
  have d1 := (I.down x22).to (lo := -1000000000) (hi := 1000000000) (by decide +kernel)
  have d2 := (I.down x26).to (lo := -1000000000) (hi := 1000000000) (by decide +kernel)
  have d3 := (I.down x15).to (lo := -1000000000) (hi := 1000000000) (by decide +kernel)
  have e := turned_eq o u v
  refine ⟨?_, ?_, fsub .f64 (fmul .f64 (fsub .f64 (fmul .f64 u (impl_cosine (fconv .f32 o.Peri .f64))) (fmul .f64 v (impl_sine (fconv .f32 o.Peri .f64)))) (impl_cosine (fconv .f32 o.Node .f64))) (fmul .f64 (fmul .f64 (fadd .f64 (fmul .f64 u (impl_sine (fconv .f32 o.Peri .f64))) (fmul .f64 v (impl_cosine (fconv .f32 o.Peri .f64)))) (impl_cosine (fconv .f32 o.Tilt .f64))) (impl_sine (fconv .f32 o.Node .f64))), fadd .f64 (fmul .f64 (fsub .f64 (fmul .f64 u (impl_cosine (fconv .f32 o.Peri .f64))) (fmul .f64 v (impl_sine (fconv .f32 o.Peri .f64)))) (impl_sine (fconv .f32 o.Node .f64))) (fmul .f64 (fmul .f64 (fadd .f64 (fmul .f64 u (impl_sine (fconv .f32 o.Peri .f64))) (fmul .f64 v (impl_cosine (fconv .f32 o.Peri .f64)))) (impl_cosine (fconv .f32 o.Tilt .f64))) (impl_cosine (fconv .f32 o.Node .f64))), fmul .f64 (fadd .f64 (fmul .f64 u (impl_sine (fconv .f32 o.Peri .f64))) (fmul .f64 v (impl_cosine (fconv .f32 o.Peri .f64)))) (impl_sine (fconv .f32 o.Tilt .f64)), ?_, ?_, ?_, ?_⟩
  · unfold impl_Orbit_turned_need impl_Orbit_turned_tree
    simp only [DT.ok, fconvOk_up, g1, g2, g3]
  · unfold spec_l03Turned_need spec_l03Turned_tree
    simp only [DT.ok, fconvOk_up, ps1, pc1, ts1, tc1, ns1, nc1]
  · unfold spec_l03Turned spec_l03Turned_tree
    simp only [DT.val, ps2, pc2, ts2, tc2, ns2, nc2]
  · unfold spec_l03Short_need spec_l03Short_tree
    simp only [DT.ok, (narrow_eq g1).1, (narrow_eq g2).1, (narrow_eq g3).1]
  · rw [e]
    unfold spec_l03Short spec_l03Short_tree
    simp only [DT.val, (narrow_eq g1).2, (narrow_eq g2).2, (narrow_eq g3).2]
  · rw [e]
    exact ⟨d1, d2, d3⟩

theorem vfinite_eq (v : Vec) : spec_l01VFinite v = finV v := by
  unfold spec_l01VFinite spec_l01VFinite_tree finV
  simp only [l01Finite_eq]
  cases h1 : isNum .f32 v.X <;> cases h2 : isNum .f32 v.Y <;> simp only [DT.val] <;> rfl

theorem above_L {m : Nat} (hm : I .f32 m (some (1 / 2, 4))) : spec_l02Above m = true ∧ impl_aLength_need m = true ∧ impl_aLength m = true := by
  obtain ⟨a1, a2⟩ := aLength_I hm (by decide +kernel)
  exact ⟨by rw [← (aLength_same m).2]; exact a2, a1, a2⟩

theorem around_L {o : Orbit} {m : Nat} {P : Rat} (h : OrbL o P) (hm : I .f32 m (some (1 / 2, 4))) : impl_Orbit_isAround_need o m = true ∧ impl_Orbit_isAround o m = true ∧ spec_l03Can o m = true := by
  obtain ⟨a0, a1, a2⟩ := above_L hm
  obtain ⟨v1, v2⟩ := ValidOrbit_eq o
  rw [h.ok] at v2
  have hv : (⟨o.Long, o.Round, o.Tilt, o.Node, o.Peri, o.Phase⟩ : Orbit) = o := rfl
  unfold impl_Orbit_isAround_need impl_Orbit_isAround impl_Orbit_isAround_tree spec_l03Can spec_l03Can_tree
  simp only [DT.ok, DT.val, hv, v1, v2, a0, a1, a2, l03Is_eq, h.ok]
  exact ⟨trivial, trivial, trivial⟩

/-- Place and speed, the program's and the reference's. -/
theorem state_L {o : Orbit} {m : Nat} {P : Rat} (h : OrbL o P) (hm : I .f32 m (some (1 / 2, 4))) : impl_StateOf_need o m = true ∧ spec_StateOf_need o m = true ∧ spec_l03State_need o m = true ∧ ∃ at' sp, impl_StateOf o m = (at', sp, true) ∧ spec_StateOf o m = (at', sp, true) ∧ spec_l03State o m = (at', sp, true) ∧ VecI at' 1000000000 := by
  obtain ⟨p1, p2, a, b, c, d, p3, p4, ha, hb, hc, hd⟩ := plane_L h hm
  obtain ⟨t1, t2, x, y, z, t3, t4, t5, t6⟩ := turned_L h ha hb
  obtain ⟨u1, u2, x', y', z', u3, u4, u5, u6⟩ := turned_L h hc hd
  obtain ⟨a1, a2, a3⟩ := around_L h hm
  have hv : (⟨o.Long, o.Round, o.Tilt, o.Node, o.Peri, o.Phase⟩ : Orbit) = o := rfl
  have s : impl_Orbit_state_need o (fconv .f32 m .f64) = true ∧ impl_Orbit_state o (fconv .f32 m .f64) = (impl_Orbit_turned o a b, impl_Orbit_turned o c d) := by
    unfold impl_Orbit_state_need impl_Orbit_state impl_Orbit_state_tree
    simp only [DT.ok, DT.val, hv, p1, p3, t1, u1]
    exact ⟨trivial, trivial⟩
  have hf1 := isFiniteVector_eq (impl_Orbit_turned o a b)
  have hf2 := isFiniteVector_eq (impl_Orbit_turned o c d)
  have hF1 := t6.fin
  have hF2 := u6.fin
  rw [hF1] at hf1
  rw [hF2] at hf2
  have e1 : (⟨(impl_Orbit_turned o a b).X, (impl_Orbit_turned o a b).Y, (impl_Orbit_turned o a b).Z⟩ : Vec) = impl_Orbit_turned o a b := rfl
  have e2 : (⟨(impl_Orbit_turned o c d).X, (impl_Orbit_turned o c d).Y, (impl_Orbit_turned o c d).Z⟩ : Vec) = impl_Orbit_turned o c d := rfl
  have q : spec_l03State_need o m = true ∧ spec_l03State o m = (impl_Orbit_turned o a b, impl_Orbit_turned o c d, true) := by
    unfold spec_l03State_need spec_l03State spec_l03State_tree
    simp only [DT.ok, DT.val, hv, p2, p4, t2, t3, t4, t5, u2, u3, u4, u5, e1, e2, vfinite_eq, hF1, hF2, Bool.not_true]
    exact ⟨trivial, trivial⟩
  refine ⟨?_, ?_, q.1, impl_Orbit_turned o a b, impl_Orbit_turned o c d, ?_, ?_, q.2, t6⟩
  · unfold impl_StateOf_need impl_StateOf_tree
    simp only [DT.ok, hv, a1, a2, fconvOk_up, s.1, s.2, e1, e2, hf1.1, hf1.2, hf2.1, hf2.2, Bool.not_true]
  · unfold spec_StateOf_need spec_StateOf_tree
    simp only [DT.ok, hv, a3, q.1, Bool.not_true]
  · unfold impl_StateOf impl_StateOf_tree
    simp only [DT.val, hv, a2, s.2, e1, e2, hf1.2, hf2.2, Bool.not_true]
  · unfold spec_StateOf spec_StateOf_tree
    simp only [DT.val, hv, a3, q.2, e1, e2, Bool.not_true]

/-! ## Later orbits -/

theorem wrapped_both {x : Nat} (hx : isNum .f64 (impl_wrap x) = true) (h0 : 0 ≤ R .f64 (impl_wrap x)) (h1 : R .f64 (impl_wrap x) ≤ 2) : spec_l03Wrapped_need x = true ∧ spec_l03Wrapped x = impl_narrowTurn (impl_wrap x) := by
  have hI : I .f64 (impl_wrap x) (some (0, 2)) := ⟨hx, h0, h1⟩
  have f1 := I.fits hI (by decide +kernel) (by decide +kernel)
  have d1 := (I.down hI).to (lo := -1) (hi := 3) (by decide +kernel)
  obtain ⟨n1, n2⟩ := narrow_eq f1
  have hc : (!flt .f32 (fconv .f64 (impl_wrap x) .f32) 1065353216) = fge .f32 (fconv .f64 (impl_wrap x) .f32) 1065353216 := by
    rw [flt_R d1.1 k_one32.1, fge_R d1.1 k_one32.1]
    by_cases h' : R .f32 1065353216 ≤ R .f32 (fconv .f64 (impl_wrap x) .f32)
    · rw [decide_eq_true h', decide_eq_false (by grind)]; rfl
    · rw [decide_eq_false h', decide_eq_true (by grind)]; rfl
  constructor
  · unfold spec_l03Wrapped_need spec_l03Wrapped_tree
    simp only [DT.ok, wrap_same, n1, n2]
    split <;> rfl
  · unfold spec_l03Wrapped spec_l03Wrapped_tree impl_narrowTurn impl_narrowTurn_tree
    simp only [DT.val, wrap_same, n2, hc]

theorem give_eq {o : Orbit} (h : validO o = true) : spec_l03Give o = (o, true) := by
  have hv : (⟨o.Long, o.Round, o.Tilt, o.Node, o.Peri, o.Phase⟩ : Orbit) = o := rfl
  unfold spec_l03Give spec_l03Give_tree
  simp only [DT.val, hv, l03Is_eq, h, Bool.not_true]

theorem validO_phase {o : Orbit} (h : validO o = true) (hl : fgt .f32 o.Long 0 = true) {p : Nat} (hp : turnB p = true) : validO ⟨o.Long, o.Round, o.Tilt, o.Node, o.Peri, p⟩ = true := by
  unfold validO at *
  simp only [hl, Bool.and_eq_true] at h ⊢
  exact ⟨h.1, h.2.1, h.2.2.1, h.2.2.2.1, h.2.2.2.2.1, h.2.2.2.2.2.1, h.2.2.2.2.2.2.1, hp⟩

theorem validO_branch {o : Orbit} (h : validO o = true) (hl : fgt .f32 o.Long 0 = false) {p : Nat} (hp : fge .f32 p 3246391296 = true) (hq : fle .f32 p 1098907648 = true) : validO ⟨o.Long, o.Round, o.Tilt, o.Node, o.Peri, p⟩ = true := by
  unfold validO at *
  simp only [hl, Bool.and_eq_true] at h ⊢
  exact ⟨h.1, h.2.1, h.2.2.1, h.2.2.2.1, h.2.2.2.2.1, h.2.2.2.2.2.1, h.2.2.2.2.2.2.1, hp, hq⟩

theorem k_16 : I .f32 3246391296 (some (-16, -16)) ∧ I .f32 1098907648 (some (16, 16)) := ⟨I.at (by decide +kernel), I.at (by decide +kernel)⟩
theorem k_tau : I .f64 4618760256179416344 (some (62831 / 10000, 62832 / 10000)) := I.at (by decide +kernel)

theorem later_L {o : Orbit} {m t : Nat} (h : OrbL o 2) (hm : I .f32 m (some (1 / 2, 4))) (ht : I .f32 t (some (0, 4))) : impl_LaterOrbit_need o m t = true ∧ spec_LaterOrbit_need o m t = true ∧ spec_l03Later_need o m t = true ∧ ∃ o', impl_LaterOrbit o m t = (o', true) ∧ spec_LaterOrbit o m t = (o', true) ∧ spec_l03Later o m t = (o', true) ∧ OrbL o' 16 := by
  obtain ⟨r1, r2, r3, r4⟩ := rate_L h hm
  obtain ⟨a1, a2, a3⟩ := around_L h hm
  have hv : (⟨o.Long, o.Round, o.Tilt, o.Node, o.Peri, o.Phase⟩ : Orbit) = o := rfl
  have x7 := (I.div (I.mul r4 ht.up) k_tau).to (lo := -1 / 1000) (hi := 11) (by decide +kernel)
  rcases h.kind with ⟨kl, kr, kp⟩ | ⟨kl, kr, kp⟩
  · have hgt : fgt .f32 o.Long 0 = true := I.gt kl k_zero32 (by decide +kernel)
    have x8 := (I.add kp.up x7).to (lo := -1000) (hi := 1000) (by decide +kernel)
    obtain ⟨w1, w2, w3, -⟩ := wrap_near x8
    generalize hy : fadd .f64 (fconv .f32 o.Phase .f64) (fdiv .f64 (fmul .f64 (impl_Orbit_rate o (fconv .f32 m .f64)) (fconv .f32 t .f64)) 4618760256179416344) = y at *
    have ew : impl_wrap y = fsub .f64 y (ffloor y) := rfl
    rw [← ew] at w1 w2 w3
    obtain ⟨n1, n2, n3⟩ := narrow_I w1 w2 (by grind)
    obtain ⟨s1, s2⟩ := wrapped_both w1 w2 (by grind)
    have hO := validO_phase h.ok hgt n2
    obtain ⟨v1, v2⟩ := valid_I hO
    have g := give_eq hO
    have q : spec_l03Later_need o m t = true ∧ spec_l03Later o m t = (⟨o.Long, o.Round, o.Tilt, o.Node, o.Peri, impl_narrowTurn (impl_wrap y)⟩, true) := by
      unfold spec_l03Later_need spec_l03Later spec_l03Later_tree
      simp only [DT.ok, DT.val, fconvOk_up, hv, r2, r3, hy, ellipse_same, hgt, s1, s2, g]
      exact ⟨trivial, trivial⟩
    refine ⟨?_, ?_, q.1, _, ?_, ?_, q.2, ⟨hO, h.tilt, h.node, h.peri, .inl ⟨kl, kr, n3⟩⟩⟩
    · unfold impl_LaterOrbit_need impl_LaterOrbit_tree
      simp only [DT.ok, hv, a1, a2, IsFinite_need, IsFinite_eq, ht.1, fconvOk_up, r1, hgt, hy, n1, v1, Bool.not_true]
    · unfold spec_LaterOrbit_need spec_LaterOrbit_tree
      simp only [DT.ok, hv, a3, l01Finite_eq, ht.1, q.1, Bool.not_true]
    · unfold impl_LaterOrbit impl_LaterOrbit_tree
      simp only [DT.val, hv, a2, IsFinite_eq, ht.1, hgt, hy, v2, Bool.not_true]
    · unfold spec_LaterOrbit spec_LaterOrbit_tree
      simp only [DT.val, hv, a3, l01Finite_eq, ht.1, q.2, Bool.not_true]
  · have hgt : fgt .f32 o.Long 0 = false := I.not_gt kl k_zero32 (by decide +kernel)
    have x8 := (I.add kp.up x7).to (lo := -15) (hi := 15) (by decide +kernel)
    generalize hy : fadd .f64 (fconv .f32 o.Phase .f64) (fdiv .f64 (fmul .f64 (impl_Orbit_rate o (fconv .f32 m .f64)) (fconv .f32 t .f64)) 4618760256179416344) = y at *
    have f1 := I.fits x8 (by decide +kernel) (by decide +kernel)
    have d1 := (I.down x8).to (lo := -16) (hi := 16) (by decide +kernel)
    obtain ⟨n1, n2⟩ := narrow_eq f1
    have hO := validO_branch h.ok hgt (I.ge d1 k_16.1 (by decide +kernel)) (I.le d1 k_16.2 (by decide +kernel))
    obtain ⟨v1, v2⟩ := valid_I hO
    have g := give_eq hO
    have q : spec_l03Later_need o m t = true ∧ spec_l03Later o m t = (⟨o.Long, o.Round, o.Tilt, o.Node, o.Peri, fconv .f64 y .f32⟩, true) := by
      unfold spec_l03Later_need spec_l03Later spec_l03Later_tree
      simp only [DT.ok, DT.val, fconvOk_up, hv, r2, r3, hy, ellipse_same, hgt, n1, n2, g]
      exact ⟨trivial, trivial⟩
    refine ⟨?_, ?_, q.1, _, ?_, ?_, q.2, ⟨hO, h.tilt, h.node, h.peri, .inr ⟨kl, kr, d1⟩⟩⟩
    · unfold impl_LaterOrbit_need impl_LaterOrbit_tree
      simp only [DT.ok, hv, a1, a2, IsFinite_need, IsFinite_eq, ht.1, fconvOk_up, r1, hgt, hy, f1, v1, Bool.not_true]
    · unfold spec_LaterOrbit_need spec_LaterOrbit_tree
      simp only [DT.ok, hv, a3, l01Finite_eq, ht.1, q.1, Bool.not_true]
    · unfold impl_LaterOrbit impl_LaterOrbit_tree
      simp only [DT.val, hv, a2, IsFinite_eq, ht.1, hgt, hy, v2, Bool.not_true]
    · unfold spec_LaterOrbit spec_LaterOrbit_tree
      simp only [DT.val, hv, a3, l01Finite_eq, ht.1, q.2, Bool.not_true]

theorem angle_core2 {Y X : Nat} (ny : isNum .f64 Y = true) (nx : isNum .f64 X = true) (h : (feq .f64 X 0 && feq .f64 Y 0) = false) :
    ∃ o2, impl_angle Y X = negIf (flt .f64 Y 0) o2 ∧ isNum .f64 o2 = true ∧ 0 ≤ R .f64 o2 ∧ R .f64 o2 ≤ 1 / 2 ∧ (0 ≤ R .f64 X → R .f64 o2 ≤ 2501 / 10000) := by
  have hT := T_le
  have hG := Gr_ge
  have z64 : isNum .f64 0 = true ∧ R .f64 0 = 0 := by decide +kernel
  have hr := ratio_sm ny nx h
  rw [feq_R nx z64.1, feq_R ny z64.1, z64.2] at h
  have hne : ¬ (R .f64 X = 0 ∧ R .f64 Y = 0) := fun ⟨a, b⟩ => by rw [decide_eq_true a, decide_eq_true b] at h; cases h
  rw [impl_angle_eq]
  rw [math_Abs_eq (num_nan ny), math_Abs_eq (num_nan nx)] at hr ⊢
  have ab : ∀ {w : Nat}, isNum .f64 w = true → isNum .f64 (fabs w) = true ∧ 0 ≤ R .f64 (fabs w) ∧ (R .f64 (fabs w) = 0 → R .f64 w = 0) := fun {w} hw => by
    obtain ⟨b1, b2, b3⟩ := fabs_R hw
    refine ⟨b1, ?_⟩
    rcases (Rat.le_total : (0 : Rat) ≤ R .f64 w ∨ R .f64 w ≤ 0) with g | g
    · rw [b2 g]; exact ⟨g, fun h => h⟩
    · rw [b3 g]; exact ⟨by grind, fun h => by grind⟩
  obtain ⟨a1, pa, a0⟩ := ab ny
  obtain ⟨b1, pb, b0⟩ := ab nx
  have tI : I .f64 (ratio (fabs Y) (fabs X)) (some (0, 1)) := by
    obtain ⟨s1, s2⟩ := sm_I (by decide) hr
    refine ⟨s1, ?_, s2.2⟩
    unfold ratio
    cases hg : fgt .f64 (fabs Y) (fabs X) with
    | true =>
      rw [fgt_R a1 b1, decide_eq_true_eq] at hg
      exact fdiv_nn b1 a1 pb (by grind)
    | false =>
      rw [fgt_R a1 b1] at hg
      have hg := of_decide_eq_false hg
      refine fdiv_nn a1 b1 pa ?_
      have hne2 : R .f64 (fabs X) ≠ 0 := fun e => hne ⟨b0 e, a0 (by grind)⟩
      grind
  generalize ratio (fabs Y) (fabs X) = t at *
  have i0 : I .f64 t (some (-1 / 1000000, 101 / 100)) := tI.mono (by decide +kernel) (by decide +kernel)
  have i1 := half_I1 i0
  have n1 := half_nn tI (by decide +kernel)
  have i2 := half_I2 i1
  have n2 := half_nn (t := halfAngle t) (b := 52 / 100) ⟨i1.1, n1, i1.2.2⟩ (by decide +kernel)
  have i3 := half_I3 i2
  have n3 := half_nn (t := halfAngle (halfAngle t)) (b := 27 / 100) ⟨i2.1, n2, i2.2.2⟩ (by decide +kernel)
  have ar := arc_nn (t := halfAngle (halfAngle (halfAngle t))) ⟨i3.1, n3, i3.2.2⟩
  unfold angleC
  generalize arc (halfAngle (halfAngle (halfAngle t))) = w at *
  have o1 : I .f64 (lessIf (fgt .f64 (fabs Y) (fabs X)) 4598175219545276416 w) (some (0, 2501 / 10000)) := by
    unfold lessIf
    cases fgt .f64 (fabs Y) (fabs X)
    · exact ar.mono (by decide +kernel) (by decide +kernel)
    · have q := (I.sub k_quarter ar).to (lo := -1) (hi := 2501 / 10000) (by decide +kernel)
      exact ⟨q.1, fsub_nn k_quarter.1 ar.1 (by have := k_quarter.2.1; have := ar.2.2; grind), q.2.2⟩
  generalize lessIf (fgt .f64 (fabs Y) (fabs X)) 4598175219545276416 w = o at *
  refine ⟨lessIf (flt .f64 X 0) 4602678819172646912 o, rfl, ?_⟩
  unfold lessIf
  have ho := o1.2
  cases hX : flt .f64 X 0
  · exact ⟨o1.1, ho.1, by show R .f64 o ≤ 1 / 2; grind, fun _ => ho.2⟩
  · rw [flt_R nx z64.1, z64.2, decide_eq_true_eq] at hX
    have kh := k_half.2
    have bh : Bd (R .f64 4602678819172646912 - R .f64 o) (1 / 2) := by unfold Bd; constructor <;> grind
    have f := fsub_fl k_half.1 o1.1 (bh.mono (by grind))
    exact ⟨f.1, fsub_nn k_half.1 o1.1 (by grind), le_half f bh, fun h0 => absurd hX (by grind)⟩

/-! ## Angles of two numbers of 32 bits -/

theorem z64' : isNum .f64 0 = true ∧ R .f64 0 = 0 := by decide +kernel
theorem z32' : isNum .f32 0 = true ∧ R .f32 0 = 0 := by decide +kernel

theorem zero_up {x : Nat} (hx : isNum .f32 x = true) : feq .f64 (fconv .f32 x .f64) 0 = feq .f32 x 0 := by
  obtain ⟨u1, u2⟩ := up_R hx
  rw [feq_R u1 z64'.1, feq_R hx z32'.1, u2, z64'.2, z32'.2]

theorem angle64_zero {Y X : Nat} (hy : isNum .f64 Y = true) (hx : isNum .f64 X = true) (h : (feq .f64 X 0 && feq .f64 Y 0) = true) : spec_l01AngleWide Y X = 0 := by
  rw [spec_angle_eq Y X hy hx, h]
theorem angle64_same {Y X : Nat} (hy : isNum .f64 Y = true) (hx : isNum .f64 X = true) (h : (feq .f64 X 0 && feq .f64 Y 0) = false) : spec_l01AngleWide Y X = impl_angle Y X := by
  rw [spec_angle_eq Y X hy hx, h, impl_angle_eq]

theorem specAngle_of {y x v w : Nat} (h : spec_l01AngleWide (fconv .f32 y .f64) (fconv .f32 x .f64) = v) (n1 : spec_l01Narrow_need v = true) (n2 : spec_l01Narrow v = w) : spec_l01Angle_need y x = true ∧ spec_l01Angle y x = w := by
  have key : (spec_l01Angle_tree y x).get = some w := by
    unfold spec_l01Angle_tree
    simp only [DT.get, fconvOk_up, h, n1, n2]
  exact DT.of_get key

theorem implTurns_zero {y x : Nat} (hy : isNum .f32 y = true) (hx : isNum .f32 x = true) (h : (feq .f32 x 0 && feq .f32 y 0) = true) : impl_AngleTurns_need y x = true ∧ impl_AngleTurns y x = 0 := by
  rw [Bool.and_eq_true] at h
  have key : (impl_AngleTurns_tree y x).get = some 0 := by
    unfold impl_AngleTurns_tree
    simp only [DT.get, IsFinite_need, IsFinite_eq, hy, hx, h.1, h.2, Bool.not_true]
  exact DT.of_get key

theorem implTurns_of {y x v w : Nat} (hy : isNum .f32 y = true) (hx : isNum .f32 x = true) (h : (feq .f32 x 0 && feq .f32 y 0) = false) (hv : impl_angle (fconv .f32 y .f64) (fconv .f32 x .f64) = v) (n1 : fconvOk .f64 v .f32 = true) (n2 : fconv .f64 v .f32 = w) : impl_AngleTurns_need y x = true ∧ impl_AngleTurns y x = w := by
  have key : (impl_AngleTurns_tree y x).get = some w := by
    unfold impl_AngleTurns_tree
    cases hy0 : feq .f32 y 0 with
    | true =>
      rw [hy0, Bool.and_true] at h
      simp only [DT.get, IsFinite_need, IsFinite_eq, hy, hx, hy0, h, fconvOk_up, hv, n1, n2, Bool.not_true]
    | false => simp only [DT.get, IsFinite_need, IsFinite_eq, hy, hx, hy0, fconvOk_up, hv, n1, n2, Bool.not_true]
  exact DT.of_get key

theorem turns32 {y x : Nat} (hy : isNum .f32 y = true) (hx : isNum .f32 x = true) : impl_AngleTurns_need y x = true ∧ spec_l01Angle_need y x = true ∧ spec_l01Angle y x = impl_AngleTurns y x ∧ I .f32 (impl_AngleTurns y x) (some (-51 / 100, 51 / 100)) ∧ (0 ≤ R .f32 x → I .f32 (impl_AngleTurns y x) (some (-2505 / 10000, 2505 / 10000))) := by
  have hT := T_le
  have hG := Gr_ge
  obtain ⟨uy1, uy2⟩ := up_R hy
  obtain ⟨ux1, ux2⟩ := up_R hx
  have zy := zero_up hy
  have zx := zero_up hx
  have k0 : fconvOk .f64 0 .f32 = true ∧ fconv .f64 0 .f32 = 0 := by decide +kernel
  have i0 : I .f32 0 (some (-51 / 100, 51 / 100)) ∧ I .f32 0 (some (-2505 / 10000, 2505 / 10000)) := ⟨I.at (by decide +kernel), I.at (by decide +kernel)⟩
  have hzz : (feq .f64 (fconv .f32 x .f64) 0 && feq .f64 (fconv .f32 y .f64) 0) = (feq .f32 x 0 && feq .f32 y 0) := by rw [zy, zx]
  cases hz : feq .f32 x 0 && feq .f32 y 0 with
  | true =>
    rw [hz] at hzz
    have sa := angle64_zero uy1 ux1 hzz
    obtain ⟨n1, n2⟩ := narrow_eq k0.1
    obtain ⟨e1, e2⟩ := implTurns_zero hy hx hz
    obtain ⟨f1, f2⟩ := specAngle_of sa n1 (n2.trans k0.2)
    rw [e2]
    exact ⟨e1, f1, f2, i0.1, fun _ => i0.2⟩
  | false =>
    rw [hz] at hzz
    obtain ⟨o2, a1, a2, a3, a4, a5⟩ := angle_core2 uy1 ux1 hzz
    have sa := angle64_same uy1 ux1 hzz
    have key : ∃ v, impl_angle (fconv .f32 y .f64) (fconv .f32 x .f64) = v ∧ isNum .f64 v = true ∧ ∀ M, R .f64 o2 ≤ M → Bd (R .f64 v) M := by
      refine ⟨_, a1, ?_⟩
      unfold negIf
      cases flt .f64 (fconv .f32 y .f64) 0
      · exact ⟨a2, fun M hM => by unfold Bd; constructor <;> grind⟩
      · obtain ⟨n1, n2⟩ := R_neg a2
        exact ⟨n1, fun M hM => by show Bd (R .f64 (fneg .f64 o2)) M; rw [n2]; unfold Bd; constructor <;> grind⟩
    obtain ⟨v, hv, w1, w2⟩ := key
    have b1 := w2 _ a4
    obtain ⟨d1, d2⟩ := down_fl w1 (b1.mono (by grind))
    obtain ⟨n1, n2⟩ := narrow_eq d1
    obtain ⟨e1, e2⟩ := implTurns_of hy hx hz hv d1 rfl
    obtain ⟨f1, f2⟩ := specAngle_of (sa.trans hv) n1 n2
    rw [e2]
    refine ⟨e1, f1, f2, ?_, fun h0 => ?_⟩
    · have q := d2.err b1
      unfold Nr Bd at *
      exact ⟨d2.1, by grind, by grind⟩
    · have b2 := w2 _ (a5 (by rw [ux2]; exact h0))
      have q := d2.err b2
      unfold Nr Bd at *
      exact ⟨d2.1, by grind, by grind⟩

/-! ## Lists of looks -/

def lookB (l : Look) : Bool := [l.Time, l.Right, l.Up, l.Far, l.Weight].all (isNum .f32) && !flt .f32 l.Weight 0

theorem AreLooks_1_eq (l : Look) : impl_AreLooks_1_need l = true ∧ impl_AreLooks_1 l = !lookB l := by
  obtain ⟨a1, a2⟩ := areFinite_eq [l.Time, l.Right, l.Up, l.Far, l.Weight] (by show 5 ≤ 2 ^ 62; decide)
  unfold impl_AreLooks_1_need impl_AreLooks_1 impl_AreLooks_1_tree lookB
  rw [← a2]
  cases h : impl_areFinite [l.Time, l.Right, l.Up, l.Far, l.Weight] <;> simp only [DT.ok, DT.val, a1, h, Bool.not_true, Bool.not_false, Bool.true_and, Bool.false_and, Bool.not_not] <;> exact ⟨trivial, trivial⟩

theorem look_eta (x : Look) : (⟨x.Time, x.Right, x.Up, x.Far, x.Weight⟩ : Look) = x := rfl

theorem AreLooks_eq (l : List Look) (hl : l.length ≤ 24) : impl_AreLooks_need l = true ∧ impl_AreLooks l = l.all lookB := by
  have hl' : l.length ≤ 2 ^ 62 := Nat.le_trans hl (by decide)
  obtain ⟨h1, h2⟩ := scan_loop (α := Int) (β := Unit) (step := slices_IndexFunc___impl_Look_impl_Look__impl_AreLooks_1_loop0_step (l, ((l.length : Nat) : Int))) l.length (fun i => bif lookB (l.getD i default) then none else some (i : Int)) () (fun i hi => by
    refine ⟨[], ?_⟩
    unfold slices_IndexFunc___impl_Look_impl_Look__impl_AreLooks_1_loop0_step
    simp only [DT.get, nat_dec hi, nat_in hi, look_eta, (AreLooks_1_eq _).1, (AreLooks_1_eq _).2, Int.toNat_natCast, nat_next hi hl']
    cases lookB (l.getD i default) <;> rfl) ⟨[], by
    unfold slices_IndexFunc___impl_Look_impl_Look__impl_AreLooks_1_loop0_step
    simp only [DT.get, nat_not]⟩
  have hall := firstOf_all lookB (fun i => (i : Int)) default l
  have h1 : slices_IndexFunc___impl_Look_impl_Look__impl_AreLooks_1_loop0_ends (l, ((l.length : Nat) : Int)) 0 = true := h1
  have h2 : slices_IndexFunc___impl_Look_impl_Look__impl_AreLooks_1_loop0 (l, ((l.length : Nat) : Int)) 0 = _ := h2
  have key : slices_IndexFunc___impl_Look_impl_Look__impl_AreLooks_1_need l = true ∧ decide (slices_IndexFunc___impl_Look_impl_Look__impl_AreLooks_1 l ≥ 0) = !l.all lookB := by
    unfold slices_IndexFunc___impl_Look_impl_Look__impl_AreLooks_1_need slices_IndexFunc___impl_Look_impl_Look__impl_AreLooks_1 slices_IndexFunc___impl_Look_impl_Look__impl_AreLooks_1_tree
    simp only [DT.ok, DT.val, h1, h2]
    rw [← hall]
    cases hf : firstOf (fun i => bif lookB (l.getD i default) then none else some (i : Int)) l.length with
    | none => constructor <;> first | trivial | rfl
    | some a =>
      have ha : 0 ≤ a := by
        unfold firstOf at hf
        obtain ⟨i, _, hi⟩ := List.exists_of_findSome?_eq_some hf
        cases hq : lookB (l.getD i default) <;> rw [hq] at hi
        · simp only [cond_false, Option.some.injEq] at hi; omega
        · cases hi
      simp only [isL, leftD]
      exact ⟨trivial, decide_eq_true ha⟩
  have key2 : slices_ContainsFunc___impl_Look_impl_Look__impl_AreLooks_1_need l = true ∧ slices_ContainsFunc___impl_Look_impl_Look__impl_AreLooks_1 l = !l.all lookB := by
    unfold slices_ContainsFunc___impl_Look_impl_Look__impl_AreLooks_1_need slices_ContainsFunc___impl_Look_impl_Look__impl_AreLooks_1 slices_ContainsFunc___impl_Look_impl_Look__impl_AreLooks_1_tree
    simp only [DT.ok, DT.val, key.1, key.2]
    exact ⟨trivial, trivial⟩
  have hd : decide (((l.length : Nat) : Int) ≤ 24) = true := decide_eq_true (by omega)
  unfold impl_AreLooks_need impl_AreLooks impl_AreLooks_tree
  simp only [DT.ok, DT.val, hd, key2.1, key2.2, Bool.not_not]
  exact ⟨trivial, trivial⟩

theorem l07Look_eq (l : Look) : spec_l07Look l = lookB l := by
  unfold spec_l07Look spec_l07Look_tree lookB spec_l02Least spec_l02Least_tree
  simp only [l01Finite_eq, List.all_cons, List.all_nil, Bool.and_true]
  cases h1 : isNum .f32 l.Time <;> cases h2 : isNum .f32 l.Right <;> cases h3 : isNum .f32 l.Up <;> cases h4 : isNum .f32 l.Far <;> cases h5 : isNum .f32 l.Weight <;> simp only [DT.val, Bool.true_and, Bool.false_and, Bool.and_false]
  rw [fge_R h5 z32'.1, flt_R h5 z32'.1]
  by_cases h : R .f32 0 ≤ R .f32 l.Weight
  · rw [decide_eq_true h, decide_eq_false (by grind)]; rfl
  · rw [decide_eq_false h, decide_eq_true (by grind)]; rfl

theorem l07Are_eq (l : List Look) (hl : l.length ≤ 24) : spec_l07Are_need l = true ∧ spec_l07Are l = l.all lookB := by
  have hl' : l.length ≤ 2 ^ 62 := Nat.le_trans hl (by decide)
  have hd : decide (((l.length : Nat) : Int) ≤ 24) = true := decide_eq_true (by omega)
  obtain ⟨h1, h2⟩ := scan_loop (α := Unit) (β := Unit) (step := spec_l07Are_loop0_step l) l.length (fun i => bif lookB (l.getD i default) then none else some ()) () (fun i hi => by
    refine ⟨[], ?_⟩
    unfold spec_l07Are_loop0_step
    simp only [DT.get, nat_dec hi, nat_in hi, hd, look_eta, l07Look_eq, Int.toNat_natCast, nat_next hi hl']
    cases lookB (l.getD i default) <;> rfl) ⟨[], by
    unfold spec_l07Are_loop0_step
    simp only [DT.get, nat_not]⟩
  have hall := firstOf_all lookB (fun i => ()) default l
  have h1 : spec_l07Are_loop0_ends l 0 = true := h1
  have h2 : spec_l07Are_loop0 l 0 = _ := h2
  unfold spec_l07Are_need spec_l07Are spec_l07Are_tree
  simp only [DT.ok, DT.val, h1, h2]
  rw [← hall]
  cases hf : firstOf (fun i => bif lookB (l.getD i default) then none else some ()) l.length with
  | none => simp only [isL, hd]; exact ⟨trivial, rfl⟩
  | some a => simp only [isL]; exact ⟨trivial, rfl⟩

theorem firstOf_none {α : Type} {g : Nat → Option α} {n : Nat} : firstOf g n = none ↔ ∀ i, i < n → g i = none := by
  unfold firstOf
  rw [List.findSome?_eq_none_iff]
  exact ⟨fun h i hi => h i (List.mem_range.2 hi), fun h i hi => h i (List.mem_range.1 hi)⟩

theorem feq_self' {k : FloatKind} {x : Nat} (h : isNaN k x = false) : feq k x x = true := by
  have h1 := fne_feq k x x
  have h2 := fne_self k x
  rw [h2, h] at h1
  simpa using h1.symm

theorem same_number (x : Nat) : impl_SameNumber_need x x = true ∧ impl_SameNumber x x = true := by
  have key : (impl_SameNumber_tree x x).get = some true := by
    unfold impl_SameNumber_tree
    simp only [fne_self]
    cases hn : isNaN .f32 x with
    | true => rfl
    | false => simp only [DT.get, feq_self' hn, fconvOk_up, isNaN_up, hn, Bool.not_false, beq_self_eq_true]
  exact DT.of_get key

theorem same_numbers (l : List Nat) (hl : l.length ≤ 2 ^ 62) : impl_sameNumbers_need l l = true ∧ impl_sameNumbers l l = true := by
  obtain ⟨h1, h2⟩ := scan_loop (α := Unit) (β := Unit) (step := slices_EqualFunc___float32___float32_float32_float32__impl_SameNumber_loop0_step (l, l, ((l.length : Nat) : Int))) l.length (fun _ => none) () (fun i hi => by
    refine ⟨[], ?_⟩
    unfold slices_EqualFunc___float32___float32_float32_float32__impl_SameNumber_loop0_step
    simp only [DT.get, nat_dec hi, nat_ge, Bool.and_true, (same_number _).1, (same_number _).2, nat_next hi hl, Bool.not_true]) ⟨[], by
    unfold slices_EqualFunc___float32___float32_float32_float32__impl_SameNumber_loop0_step
    simp only [DT.get, nat_not]⟩
  have hf : firstOf (fun _ : Nat => (none : Option Unit)) l.length = none := firstOf_none.2 fun _ _ => rfl
  rw [hf] at h2
  have h1 : slices_EqualFunc___float32___float32_float32_float32__impl_SameNumber_loop0_ends (l, l, ((l.length : Nat) : Int)) 0 = true := h1
  have h2 : slices_EqualFunc___float32___float32_float32_float32__impl_SameNumber_loop0 (l, l, ((l.length : Nat) : Int)) 0 = .inr () := h2
  have k1 : slices_EqualFunc___float32___float32_float32_float32__impl_SameNumber_need l l = true ∧ slices_EqualFunc___float32___float32_float32_float32__impl_SameNumber l l = true := by
    have key : (slices_EqualFunc___float32___float32_float32_float32__impl_SameNumber_tree l l).get = some true := by
      unfold slices_EqualFunc___float32___float32_float32_float32__impl_SameNumber_tree
      have d : (((List.length l : Nat) : Int) != ((List.length l : Nat) : Int)) = false := by simp
      simp only [DT.get, d, h1, h2, isL]
    exact DT.of_get key
  have key : (impl_sameNumbers_tree l l).get = some true := by
    unfold impl_sameNumbers_tree
    simp only [DT.get, k1.1, k1.2]
  exact DT.of_get key


theorem same_look (l : Look) : impl_SameLooks_1_need l l = true ∧ impl_SameLooks_1 l l = true := by
  have key : (impl_SameLooks_1_tree l l).get = some true := by
    unfold impl_SameLooks_1_tree
    obtain ⟨a, b⟩ := same_numbers [l.Time, l.Right, l.Up, l.Far, l.Weight] (by show 5 ≤ 2 ^ 62; decide)
    simp only [DT.get, a, b]
  exact DT.of_get key

theorem same_looks (l : List Look) (hl : l.length ≤ 2 ^ 62) : impl_SameLooks_need l l = true ∧ impl_SameLooks l l = true := by
  have eta : ∀ x : Look, (⟨x.Time, x.Right, x.Up, x.Far, x.Weight⟩ : Look) = x := fun _ => rfl
  obtain ⟨h1, h2⟩ := scan_loop (α := Unit) (β := Unit) (step := slices_EqualFunc___impl_Look___impl_Look_impl_Look_impl_Look__impl_SameLooks_1_loop0_step (l, l, ((l.length : Nat) : Int))) l.length (fun _ => none) () (fun i hi => by
    refine ⟨[], ?_⟩
    unfold slices_EqualFunc___impl_Look___impl_Look_impl_Look_impl_Look__impl_SameLooks_1_loop0_step
    simp only [DT.get, nat_dec hi, nat_ge, Bool.and_true, eta, (same_look _).1, (same_look _).2, nat_next hi hl, Bool.not_true]) ⟨[], by
    unfold slices_EqualFunc___impl_Look___impl_Look_impl_Look_impl_Look__impl_SameLooks_1_loop0_step
    simp only [DT.get, nat_not]⟩
  have hf : firstOf (fun _ : Nat => (none : Option Unit)) l.length = none := firstOf_none.2 fun _ _ => rfl
  rw [hf] at h2
  have h1 : slices_EqualFunc___impl_Look___impl_Look_impl_Look_impl_Look__impl_SameLooks_1_loop0_ends (l, l, ((l.length : Nat) : Int)) 0 = true := h1
  have h2 : slices_EqualFunc___impl_Look___impl_Look_impl_Look_impl_Look__impl_SameLooks_1_loop0 (l, l, ((l.length : Nat) : Int)) 0 = .inr () := h2
  have k1 : slices_EqualFunc___impl_Look___impl_Look_impl_Look_impl_Look__impl_SameLooks_1_need l l = true ∧ slices_EqualFunc___impl_Look___impl_Look_impl_Look_impl_Look__impl_SameLooks_1 l l = true := by
    have key : (slices_EqualFunc___impl_Look___impl_Look_impl_Look_impl_Look__impl_SameLooks_1_tree l l).get = some true := by
      unfold slices_EqualFunc___impl_Look___impl_Look_impl_Look_impl_Look__impl_SameLooks_1_tree
      have d : (((List.length l : Nat) : Int) != ((List.length l : Nat) : Int)) = false := by simp
      simp only [DT.get, d, h1, h2, isL]
    exact DT.of_get key
  have key : (impl_SameLooks_tree l l).get = some true := by
    unfold impl_SameLooks_tree
    simp only [DT.get, k1.1, k1.2]
  exact DT.of_get key

/-! ## What is seen -/

theorem size_I {v : Vec} (h : VecI v 1000000000) : I .f32 (rootN (innerN v.X v.Y v.Z)) (some (0, 3000000000)) := by
  have hT := T_le
  have hT0 := T_pos
  obtain ⟨hx, hy, hz⟩ := h
  have b : ∀ {x : Nat}, I .f32 x (some (-1000000000, 1000000000)) → R .f32 x * R .f32 x ≤ 1000000000000000000 := fun {x} h => by
    have h2 := h.2
    have := sq_bd (a := R .f32 x) (e := 1000000000) (by unfold Bd; constructor <;> grind)
    grind
  have bx := b hx
  have by' := b hy
  have bz := b hz
  obtain ⟨-, -, n, ρ, r1, r2, r3⟩ := size_fl hx.1 hy.1 hz.1 (B := 3000000000000000000) (by grind) (by decide +kernel)
  have hρ : ρ ≤ 2000000000 := le_of_sq (by decide +kernel) (by unfold Nr at r2; grind)
  have nn : 0 ≤ R .f32 (rootN (innerN v.X v.Y v.Z)) := by
    obtain ⟨i1, i2⟩ := inner_fl hx.1 hy.1 hz.1 (B := 3000000000000000000) (by grind) (by decide +kernel)
    have s1 := sq_nonneg (R .f32 v.X)
    have s2 := sq_nonneg (R .f32 v.Y)
    have s3 := sq_nonneg (R .f32 v.Z)
    have g1 := fmul_nn hx.1 hx.1 s1
    have g2 := fmul_nn hy.1 hy.1 s2
    have g3 := fmul_nn hz.1 hz.1 s3
    have n1 : ∀ {x : Nat}, I .f32 x (some (-1000000000, 1000000000)) → I .f32 (fmul .f32 x x) (some (-1000000000000, 1100000000000000000)) := fun h => (I.sq h).to (by decide +kernel)
    have a1 := (I.add (n1 hx) (n1 hy)).to (lo := -3000000000000) (hi := 3000000000000000000) (by decide +kernel)
    have g4 := fadd_nn (n1 hx).1 (n1 hy).1 (by grind)
    have g5 := fadd_nn a1.1 (n1 hz).1 (by grind)
    exact root_nn i1 g5 (by unfold Nr at i2; show R .f32 (innerN v.X v.Y v.Z) ≤ _; grind)
  exact ⟨n, nn, by unfold Nr at r3; grind⟩

theorem flat_nn {x y : Nat} (hx : I .f32 x (some (-1000000000, 1000000000))) (hy : I .f32 y (some (-1000000000, 1000000000))) : I .f32 (fadd .f32 (fmul .f32 x x) (fmul .f32 y y)) (some (0, 3000000000000000000)) := by
  have s1 := sq_nonneg (R .f32 x)
  have s2 := sq_nonneg (R .f32 y)
  have g1 := fmul_nn hx.1 hx.1 s1
  have g2 := fmul_nn hy.1 hy.1 s2
  have n1 : ∀ {x : Nat}, I .f32 x (some (-1000000000, 1000000000)) → I .f32 (fmul .f32 x x) (some (-1000000000000, 1100000000000000000)) := fun h => (I.sq h).to (by decide +kernel)
  have a1 := (I.add (n1 hx) (n1 hy)).to (lo := -3000000000000) (hi := 3000000000000000000) (by decide +kernel)
  exact ⟨a1.1, fadd_nn (n1 hx).1 (n1 hy).1 (by grind), a1.2.2⟩

/-- What is seen at a time. -/
structure Seen (o : Orbit) (m t : Nat) (o' : Orbit) (at' sp : Vec) (r u : Nat) : Prop where
  need : impl_LookAt_need o m t = true
  told : impl_LookAt o m t = (⟨t, r, u, rootN (innerN at'.X at'.Y at'.Z), 1065353216⟩, true)
  need' : spec_l07At_need o m t = true
  told' : spec_l07At o m t = (⟨t, r, u, rootN (innerN at'.X at'.Y at'.Z), 1065353216⟩, true)
  later_need : spec_LaterOrbit_need o m t = true
  later : spec_LaterOrbit o m t = (o', true)
  state_need : spec_StateOf_need o' m = true
  state : spec_StateOf o' m = (at', sp, true)
  right : I .f32 r (some (-51 / 100, 51 / 100))
  up : I .f32 u (some (-2505 / 10000, 2505 / 10000))
  far : I .f32 (rootN (innerN at'.X at'.Y at'.Z)) (some (0, 3000000000))
  time : I .f32 t (some (0, 4))

theorem k_w : isNum .f32 1065353216 = true ∧ flt .f32 1065353216 0 = false := by decide +kernel

theorem seen_L {o : Orbit} {m t : Nat} (h : OrbL o 2) (hm : I .f32 m (some (1 / 2, 4))) (ht : I .f32 t (some (0, 4))) : ∃ o' at' sp r u, Seen o m t o' at' sp r u := by
  obtain ⟨l1, l2, l3, o', l4, l5, l6, hO⟩ := later_L h hm ht
  obtain ⟨s1, s2, s3, at', sp, s4, s5, s6, hV⟩ := state_L hO hm
  have hf := flat_nn hV.1 hV.2.1
  have hroot : I .f32 (rootN (fadd .f32 (fmul .f32 at'.X at'.X) (fmul .f32 at'.Y at'.Y))) (some (0, 3000000000)) := by
    have hT := T_le
    have hT0 := T_pos
    have h2 := hf.2
    obtain ⟨-, -, n, ρ, r1, r2, r3⟩ := root_fl hf.1 h2.1 (by grind)
    have hρ : ρ ≤ 2000000000 := le_of_sq (by decide +kernel) (by unfold Nr at r2; grind)
    exact ⟨n, root_nn hf.1 h2.1 (by grind), by unfold Nr at r3; grind⟩
  obtain ⟨r1, r2, r3, r4, -⟩ := turns32 hV.2.1.1 hV.1.1
  obtain ⟨u1, u2, u3, u4, u5⟩ := turns32 hV.2.2.1 hroot.1
  have u5 := u5 hroot.2.1
  have hF := size_I hV
  have hvO : (⟨o.Long, o.Round, o.Tilt, o.Node, o.Peri, o.Phase⟩ : Orbit) = o := rfl
  have hvO' : (⟨o'.Long, o'.Round, o'.Tilt, o'.Node, o'.Peri, o'.Phase⟩ : Orbit) = o' := rfl
  have hvV : (⟨at'.X, at'.Y, at'.Z⟩ : Vec) = at' := rfl
  have hB : lookB ⟨t, impl_AngleTurns at'.Y at'.X, impl_AngleTurns at'.Z (rootN (fadd .f32 (fmul .f32 at'.X at'.X) (fmul .f32 at'.Y at'.Y))), rootN (innerN at'.X at'.Y at'.Z), 1065353216⟩ = true := by
    unfold lookB
    simp only [List.all_cons, List.all_nil, ht.1, r4.1, u4.1, hF.1, k_w.1, k_w.2, Bool.and_true, Bool.not_false]
  obtain ⟨A1, A2⟩ := AreLooks_eq [⟨t, impl_AngleTurns at'.Y at'.X, impl_AngleTurns at'.Z (rootN (fadd .f32 (fmul .f32 at'.X at'.X) (fmul .f32 at'.Y at'.Y))), rootN (innerN at'.X at'.Y at'.Z), 1065353216⟩] (by show 1 ≤ 24; decide)
  rw [List.all_cons, List.all_nil, hB, Bool.and_true] at A2
  obtain ⟨z1, z2⟩ := specSqrt_eq (fadd .f32 (fmul .f32 at'.X at'.X) (fmul .f32 at'.Y at'.Y))
  have lg : spec_l01VLong_need at' = true ∧ spec_l01VLong at' = rootN (innerN at'.X at'.Y at'.Z) := specLong_of (specInner_eq at') (specSqrt_eq _).1 (specSqrt_eq _).2
  refine ⟨o', at', sp, _, _, ⟨?_, ?_, ?_, ?_, l2, l5, s2, s5, r4, u5, hF, ht⟩⟩
  · unfold impl_LookAt_need impl_LookAt_tree
    simp only [DT.ok, hvO, l1, l4, hvO', s1, s4, r1, Root_need, Root_val, u1, hvV, Size_need, Size_eq, A1, Bool.not_true]
    split <;> rfl
  · unfold impl_LookAt impl_LookAt_tree
    simp only [DT.val, hvO, l4, hvO', s4, Root_val, hvV, Size_eq, A2, Bool.not_true]
  · unfold spec_l07At_need spec_l07At_tree
    simp only [DT.ok, hvO, l3, l6, hvO', s3, s6, r2, r3, z1, z2, u2, u3, hvV, lg.1, Bool.not_true]
    split <;> rfl
  · unfold spec_l07At spec_l07At_tree
    simp only [DT.val, hvO, l6, hvO', s6, r3, z2, u3, hvV, lg.2, l07Look_eq, hB, Bool.not_true]

end Go.Proofs.YtfbnehkbialkaaaGreat
