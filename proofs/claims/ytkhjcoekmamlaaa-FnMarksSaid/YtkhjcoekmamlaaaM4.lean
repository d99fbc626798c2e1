/- The plain law of FnMarks, part 4: arcs, rises. -/
import Derived.Test.YtkhjcoekmamlaaaM3
import Derived.Test.YtkhjcoekmamlaaaOp
namespace Go.Proofs.Ytkhjcoekmamlaaa
open Ieee
set_option linter.unusedVariables false
set_option linter.unusedSimpArgs false

/-! ## How far turns are apart, around -/

theorem turn_T {a b : Nat} {z : Int} (ha : isNum .f32 a = true) (hb : isNum .f32 b = true) (b1 : Bd (R .f32 a) (1 / 2)) (b2 : Bd (R .f32 b) (48 / 100)) (h : Nr (R .f32 a) (R .f32 b + z) (3 / 100000)) :
    laws_r8Turn_need a b = true ∧ isNum .f64 (laws_r8Turn a b) = true ∧ R .f64 (laws_r8Turn a b) ≤ 1 / 10000 := by
  have hT := T_le
  obtain ⟨u1, u2⟩ := up_R ha
  obtain ⟨v1, v2⟩ := up_R hb
  have hz : z = 0 := by
    have c1 : -1 < z := by
      refine Rat.intCast_lt_intCast.1 ?_
      rw [show (((-1 : Int)) : Rat) = -1 by decide +kernel]
      unfold Nr Bd at *
      grind
    have c2 : z < 1 := by
      refine Rat.intCast_lt_intCast.1 ?_
      rw [show (((1 : Int)) : Rat) = 1 by decide +kernel]
      unfold Nr Bd at *
      grind
    omega
  subst hz
  rw [show ((0 : Int) : Rat) = 0 from rfl, Rat.add_zero] at h
  obtain ⟨g1, g2, g3⟩ := gap_fl (M := 3 / 100000) u1 v1 (by rw [u2, v2]; exact h) (by decide +kernel)
  have k1 : isNum .f64 4607182418800017408 = true ∧ R .f64 4607182418800017408 = 1 := by decide +kernel
  have hd : Bd (R .f64 (laws_r8Gap (fconv .f32 a .f64) (fconv .f32 b .f64))) 1 := by
    have e : laws_r8Gap (fconv .f32 a .f64) (fconv .f32 b .f64) = fmax .f64 (fsub .f64 (fconv .f32 a .f64) (fconv .f32 b .f64)) (fsub .f64 (fconv .f32 b .f64) (fconv .f32 a .f64)) := by
      unfold laws_r8Gap laws_r8Gap_tree
      simp only [DT.val]
    have bs : Bd (R .f64 (fconv .f32 a .f64) - R .f64 (fconv .f32 b .f64)) (99 / 100) := by rw [u2, v2]; unfold Bd at *; constructor <;> grind
    have bs' : Bd (R .f64 (fconv .f32 b .f64) - R .f64 (fconv .f32 a .f64)) (99 / 100) := by rw [u2, v2]; unfold Bd at *; constructor <;> grind
    have hG := Gr_ge
    have f1 := fsub_fl u1 v1 (bs.mono (by grind))
    have f2 := fsub_fl v1 u1 (bs'.mono (by grind))
    have e1 := f1.err64 bs
    have e2 := f2.err64 bs'
    obtain ⟨-, -, m1, m2, m3⟩ := fmax_R f1.1 f2.1
    rw [e]
    unfold Nr at e1 e2
    unfold Bd at bs bs'
    rcases m3 with m3 | m3 <;> rw [m3] <;> unfold Bd <;> constructor <;> grind
  obtain ⟨l1, l2, l3⟩ := gap_fl (M := 2) g2 k1.1 (by rw [k1.2]; unfold Bd at *; constructor <;> grind) (by decide +kernel)
  obtain ⟨o1, o2, o3, -⟩ := fmin_R g2 l2
  have key : laws_r8Turn_need a b = true ∧ laws_r8Turn a b = fmin .f64 (laws_r8Gap (fconv .f32 a .f64) (fconv .f32 b .f64)) (laws_r8Gap (laws_r8Gap (fconv .f32 a .f64) (fconv .f32 b .f64)) 4607182418800017408) := by
    unfold laws_r8Turn_need laws_r8Turn laws_r8Turn_tree
    simp only [DT.ok, DT.val, fconvOk_up, g1, l1, o1]
    exact ⟨trivial, trivial⟩
  rw [key.2]
  exact ⟨key.1, o2, by grind⟩

/-! ## Arcs -/

theorem fsqrt_nn {x : Nat} (hx : isNum .f64 x = true) (h : 0 ≤ R .f64 x) : 0 ≤ R .f64 (fsqrt x) := by
  obtain ⟨s, m, i, hx⟩ := isNum_iff.1 hx
  have e1 : R .f64 x = rv (.number s m i) := by unfold Proofs.Ytkhjcoekmamlaaa.R; rw [hx]
  rw [e1] at h
  unfold fsqrt Format.sqrt
  rw [hx]
  unfold Datum.root
  by_cases hm : m = 0
  · subst hm
    simp only [if_true]
    show 0 ≤ R .f64 (canon .f64 (FloatKind.f64.format.nearest s 0 i))
    exact near_nn' h
  · simp only [if_neg hm]
    cases s
    · simp only [Bool.false_eq_true, if_false]
      exact near_nn .f64 _ _
    · exfalso
      have h1 : (0 : Rat) < m := by exact_mod_cast Nat.pos_of_ne_zero hm
      have h2 := Rat.mul_pos h1 (two_pos i)
      rw [rv_sign] at h
      simp only [if_true] at h
      grind

theorem root_nn {x : Nat} (hx : isNum .f32 x = true) (h0 : 0 ≤ R .f32 x) (h : R .f32 x ≤ 1000000000000000000000000000000) : 0 ≤ R .f32 (rootN x) := by
  obtain ⟨u1, u2⟩ := up_R hx
  have n1 := (sqrt_fl u1 (by rw [u2]; exact h0) (by rw [u2]; have := Gr_ge; grind)).1
  exact down_nn n1 (fsqrt_nn u1 (by rw [u2]; exact h0))

theorem fsub_same {k : FloatKind} {x : Nat} (hx : isNum k x = true) : R k (fsub k x x) = 0 := by
  have h := fsub_opp hx hx (by rw [show R k x - R k x = 0 by grind]; have := Gr_ge; unfold Bd; constructor <;> grind)
  grind

theorem half_nn {t : Nat} {b : Rat} (h : I .f64 t (some (0, b))) (hb : b ≤ 101 / 100) : 0 ≤ R .f64 (halfAngle t) := by
  have hI : I .f64 t (some (-1 / 1000000, 101 / 100)) := h.mono (by decide +kernel) hb
  have d := (I.add k_one (I.sqrt (98 / 100) (144 / 100) (I.add k_one (I.sq hI)))).to (lo := 1) (hi := 3) (by decide +kernel)
  exact fdiv_nn h.1 d.1 h.2.1 (by have := d.2.1; grind)

theorem arc_nn {t : Nat} (h : I .f64 t (some (0, 14 / 100))) : I .f64 (arc t) (some (0, 1 / 4)) := by
  have h1 : I .f64 t (some (-1 / 1000000, 14 / 100)) := h.mono (by decide +kernel) (by decide +kernel)
  have hu := (I.sq h1).to (lo := -1 / 1000000) (hi := 2 / 100) (by decide +kernel)
  have st : ∀ {p c : Nat}, I .f64 p (some (-11 / 10, 11 / 10)) → I .f64 (fdiv .f64 4607182418800017408 c) (some (0, 101 / 100)) → I .f64 (round15 (fmul .f64 t t) p c) (some (-11 / 10, 11 / 10)) := fun hp hc => (I.sub hc (I.mul hu hp)).to (by decide +kernel)
  have z : I .f64 0 (some (-11 / 10, 11 / 10)) := I.at (by decide +kernel)
  have q1 := st (c := fofInt .f64 15) z (I.at (by decide +kernel))
  have q2 := st (c := fofInt .f64 13) q1 (I.at (by decide +kernel))
  have q3 := st (c := fofInt .f64 11) q2 (I.at (by decide +kernel))
  have q4 := st (c := fofInt .f64 9) q3 (I.at (by decide +kernel))
  have q5 := st (c := fofInt .f64 7) q4 (I.at (by decide +kernel))
  have q6 := st (c := fofInt .f64 5) q5 (I.at (by decide +kernel))
  have q7 := st (c := fofInt .f64 3) q6 (I.at (by decide +kernel))
  have c1 : I .f64 (fdiv .f64 4607182418800017408 (fofInt .f64 1)) (some (99 / 100, 101 / 100)) := I.at (by decide +kernel)
  unfold arc
  simp only
  generalize round15 (fmul .f64 t t) _ (fofInt .f64 3) = p7 at q7 ⊢
  have q8 : I .f64 (round15 (fmul .f64 t t) p7 (fofInt .f64 1)) (some (9 / 10, 11 / 10)) := (I.sub c1 (I.mul hu q7)).to (by decide +kernel)
  generalize round15 (fmul .f64 t t) p7 (fofInt .f64 1) = p at q8 ⊢
  have k8 : I .f64 4620693217682128896 (some (8, 8)) := I.at (by decide +kernel)
  have w := (I.mul h1 q8).to (lo := -1) (hi := 16 / 100) (by decide +kernel)
  have n1 := fmul_nn h.1 q8.1 (Rat.mul_nonneg h.2.1 (by have := q8.2.1; grind))
  have w2 := (I.mul k8 w).to (lo := -9) (hi := 13 / 10) (by decide +kernel)
  have n2 := fmul_nn k8.1 w.1 (Rat.mul_nonneg (by have := k8.2.1; grind) n1)
  have w3 := (I.div w2 k_turn).to (lo := -2) (hi := 1 / 4) (by decide +kernel)
  have n3 := fdiv_nn w2.1 k_turn.1 n2 (by have := k_turn.2.1; grind)
  exact ⟨w3.1, n3, w3.2.2⟩

theorem angle_pos {y x : Nat} (hy : isNum .f32 y = true) (hx : isNum .f32 x = true) (h0 : 0 ≤ R .f32 y) : impl_AngleTurns_need y x = true ∧ isNum .f32 (impl_AngleTurns y x) = true ∧ 0 ≤ R .f32 (impl_AngleTurns y x) ∧ R .f32 (impl_AngleTurns y x) ≤ 5005 / 10000 := by
  obtain ⟨ny, vy⟩ := up_R hy
  obtain ⟨nx, vx⟩ := up_R hx
  have z0 : isNum .f32 0 = true ∧ R .f32 0 = 0 := by decide +kernel
  have z64 : isNum .f64 0 = true ∧ R .f64 0 = 0 := by decide +kernel
  have fx : feq .f64 (fconv .f32 x .f64) 0 = feq .f32 x 0 := by rw [feq_R nx z64.1, feq_R hx z0.1, vx, z0.2, z64.2]
  have fy : feq .f64 (fconv .f32 y .f64) 0 = feq .f32 y 0 := by rw [feq_R ny z64.1, feq_R hy z0.1, vy, z0.2, z64.2]
  have key : (feq .f32 x 0 && feq .f32 y 0) = false → fconvOk .f64 (impl_angle (fconv .f32 y .f64) (fconv .f32 x .f64)) .f32 = true ∧ isNum .f32 (fconv .f64 (impl_angle (fconv .f32 y .f64) (fconv .f32 x .f64)) .f32) = true ∧ 0 ≤ R .f32 (fconv .f64 (impl_angle (fconv .f32 y .f64) (fconv .f32 x .f64)) .f32) ∧ R .f32 (fconv .f64 (impl_angle (fconv .f32 y .f64) (fconv .f32 x .f64)) .f32) ≤ 5005 / 10000 := fun h => by
    have hr := ratio_sm ny nx (by rw [fx, fy]; exact h)
    rw [← fx, ← fy, feq_R nx z64.1, feq_R ny z64.1, z64.2] at h
    have hne : ¬ (R .f64 (fconv .f32 x .f64) = 0 ∧ R .f64 (fconv .f32 y .f64) = 0) := fun ⟨a, b⟩ => by rw [decide_eq_true a, decide_eq_true b] at h; cases h
    rw [impl_angle_eq]
    rw [math_Abs_eq (num_nan ny), math_Abs_eq (num_nan nx)] at hr ⊢
    have h0' : 0 ≤ R .f64 (fconv .f32 y .f64) := by rw [vy]; exact h0
    generalize fconv .f32 y .f64 = Y at *
    generalize fconv .f32 x .f64 = X at *
    obtain ⟨a1, a2, a3⟩ := fabs_R ny
    obtain ⟨b1, b2, b3⟩ := fabs_R nx
    have pa : 0 ≤ R .f64 (fabs Y) := by rw [a2 h0']; exact h0'
    have pb : 0 ≤ R .f64 (fabs X) ∧ (R .f64 (fabs X) = 0 → R .f64 X = 0) := by
      rcases (Rat.le_total : (0 : Rat) ≤ R .f64 X ∨ R .f64 X ≤ 0) with g | g
      · rw [b2 g]; exact ⟨g, fun h => h⟩
      · rw [b3 g]; exact ⟨by grind, fun h => by grind⟩
    have tI : I .f64 (ratio (fabs Y) (fabs X)) (some (0, 1)) := by
      obtain ⟨s1, s2⟩ := sm_I (by decide) hr
      refine ⟨s1, ?_, s2.2⟩
      unfold ratio
      cases hg : fgt .f64 (fabs Y) (fabs X) with
      | true =>
        rw [fgt_R a1 b1, decide_eq_true_eq] at hg
        exact fdiv_nn b1 a1 pb.1 (by grind)
      | false =>
        rw [fgt_R a1 b1] at hg
        have hg := of_decide_eq_false hg
        refine fdiv_nn a1 b1 pa ?_
        have hne2 : R .f64 (fabs X) ≠ 0 := fun e => by
          rw [a2 h0'] at hg
          exact hne ⟨pb.2 e, by grind⟩
        grind
    have m0 : flt .f64 Y 0 = false := by
      rw [flt_R ny z64.1, z64.2]
      exact decide_eq_false (by grind)
    generalize ratio (fabs Y) (fabs X) = t at *
    have i0 : I .f64 t (some (-1 / 1000000, 101 / 100)) := tI.mono (by decide +kernel) (by decide +kernel)
    have i1 := half_I1 i0
    have n1 := half_nn tI (by decide +kernel)
    have i2 := half_I2 i1
    have n2 := half_nn (t := halfAngle t) (b := 52 / 100) ⟨i1.1, n1, i1.2.2⟩ (by decide +kernel)
    have i3 := half_I3 i2
    have n3 := half_nn (t := halfAngle (halfAngle t)) (b := 27 / 100) ⟨i2.1, n2, i2.2.2⟩ (by decide +kernel)
    have ar := arc_nn (t := halfAngle (halfAngle (halfAngle t))) ⟨i3.1, n3, i3.2.2⟩
    have fin : I .f64 (angleC (fgt .f64 (fabs Y) (fabs X)) (flt .f64 X 0) (flt .f64 Y 0) t) (some (0, 5001 / 10000)) := by
      unfold angleC
      rw [m0]
      generalize arc (halfAngle (halfAngle (halfAngle t))) = w at *
      have o1 : I .f64 (lessIf (fgt .f64 (fabs Y) (fabs X)) 4598175219545276416 w) (some (0, 2501 / 10000)) := by
        unfold lessIf
        cases fgt .f64 (fabs Y) (fabs X)
        · exact ar.mono (by decide +kernel) (by decide +kernel)
        · have q := (I.sub k_quarter ar).to (lo := -1) (hi := 2501 / 10000) (by decide +kernel)
          exact ⟨q.1, fsub_nn k_quarter.1 ar.1 (by have := k_quarter.2.1; have := ar.2.2; grind), q.2.2⟩
      generalize lessIf (fgt .f64 (fabs Y) (fabs X)) 4598175219545276416 w = o at *
      unfold negIf lessIf
      cases flt .f64 X 0
      · exact o1.mono (by decide +kernel) (by decide +kernel)
      · have q := (I.sub k_half o1).to (lo := 0) (hi := 5001 / 10000) (by decide +kernel)
        exact q
    have dn := (I.down fin).to (lo := -1) (hi := 5005 / 10000) (by decide +kernel)
    exact ⟨I.fits fin (by decide +kernel) (by decide +kernel), dn.1, down_nn fin.1 fin.2.1, dn.2.2⟩
  unfold impl_AngleTurns_need impl_AngleTurns impl_AngleTurns_tree
  cases h1 : feq .f32 y 0 with
  | true =>
    cases h2 : feq .f32 x 0 with
    | true =>
      simp only [DT.ok, DT.val, IsFinite_need, IsFinite_eq, hy, hx, h1, h2, Bool.not_true]
      exact ⟨trivial, by decide +kernel⟩
    | false =>
      obtain ⟨k1, k2⟩ := key (by rw [h2]; rfl)
      simp only [DT.ok, DT.val, IsFinite_need, IsFinite_eq, hy, hx, h1, h2, Bool.not_true, fconvOk_up, k1]
      exact ⟨trivial, k2⟩
  | false =>
    obtain ⟨k1, k2⟩ := key (by rw [h1, Bool.and_false])
    simp only [DT.ok, DT.val, IsFinite_need, IsFinite_eq, hy, hx, h1, Bool.not_true, fconvOk_up, k1]
    exact ⟨trivial, k2⟩

noncomputable def arcN (p q : Vec) : Nat := impl_AngleTurns (impl_SizeOfVector (impl_CrossOf p q)) (impl_InnerOf p q)

theorem Cross_eq (a b : Vec) : impl_CrossOf a b = ⟨fsub .f32 (fmul .f32 a.Y b.Z) (fmul .f32 a.Z b.Y), fsub .f32 (fmul .f32 a.Z b.X) (fmul .f32 a.X b.Z), fsub .f32 (fmul .f32 a.X b.Y) (fmul .f32 a.Y b.X)⟩ := rfl

structure Unit3 (v : Vec) : Prop where
  x : I .f32 v.X (some (-11 / 10, 11 / 10))
  y : I .f32 v.Y (some (-11 / 10, 11 / 10))
  z : I .f32 v.Z (some (-11 / 10, 11 / 10))

theorem cross_I {a b : Vec} (ha : Unit3 a) (hb : Unit3 b) : I .f32 (impl_CrossOf a b).X (some (-3, 3)) ∧ I .f32 (impl_CrossOf a b).Y (some (-3, 3)) ∧ I .f32 (impl_CrossOf a b).Z (some (-3, 3)) := by
  rw [Cross_eq]
  exact ⟨(I.sub (I.mul ha.y hb.z) (I.mul ha.z hb.y)).to (by decide +kernel), (I.sub (I.mul ha.z hb.x) (I.mul ha.x hb.z)).to (by decide +kernel), (I.sub (I.mul ha.x hb.y) (I.mul ha.y hb.x)).to (by decide +kernel)⟩

theorem inner_I {a b : Vec} (ha : Unit3 a) (hb : Unit3 b) : I .f32 (impl_InnerOf a b) (some (-4, 4)) := by
  rw [Inner_eq]
  exact (I.add (I.add (I.mul ha.x hb.x) (I.mul ha.y hb.y)) (I.mul ha.z hb.z)).to (by decide +kernel)

theorem size_num {v : Vec} {M : Rat} (hM : M ≤ 100) (hx : I .f32 v.X (some (-M, M))) (hy : I .f32 v.Y (some (-M, M))) (hz : I .f32 v.Z (some (-M, M))) : isNum .f32 (impl_SizeOfVector v) = true ∧ 0 ≤ R .f32 (impl_SizeOfVector v) := by
  rw [Size_eq]
  have bx : R .f32 v.X * R .f32 v.X ≤ 10000 := by
    have := sq_bd (a := R .f32 v.X) (e := 100) (by have := hx.2; unfold Bd; constructor <;> grind)
    grind
  have by' : R .f32 v.Y * R .f32 v.Y ≤ 10000 := by
    have := sq_bd (a := R .f32 v.Y) (e := 100) (by have := hy.2; unfold Bd; constructor <;> grind)
    grind
  have bz : R .f32 v.Z * R .f32 v.Z ≤ 10000 := by
    have := sq_bd (a := R .f32 v.Z) (e := 100) (by have := hz.2; unfold Bd; constructor <;> grind)
    grind
  have hT1 := T_le
  obtain ⟨-, -, n, -⟩ := size_fl (B := 30000) hx.1 hy.1 hz.1 (by grind) (by decide +kernel)
  obtain ⟨i1, i2⟩ := inner_fl (B := 30000) hx.1 hy.1 hz.1 (by grind) (by decide +kernel)
  have f1 := fmul_fl hx.1 hx.1 (by have := sq_nonneg (R .f32 v.X); have := Gr_ge; unfold Bd; constructor <;> grind)
  have f2 := fmul_fl hy.1 hy.1 (by have := sq_nonneg (R .f32 v.Y); have := Gr_ge; unfold Bd; constructor <;> grind)
  have f3 := fmul_fl hz.1 hz.1 (by have := sq_nonneg (R .f32 v.Z); have := Gr_ge; unfold Bd; constructor <;> grind)
  have n1 := fmul_nn hx.1 hx.1 (sq_nonneg _)
  have n2 := fmul_nn hy.1 hy.1 (sq_nonneg _)
  have n3 := fmul_nn hz.1 hz.1 (sq_nonneg _)
  have e1 := f1.err (M := 10000) (by have := sq_nonneg (R .f32 v.X); unfold Bd; constructor <;> grind)
  have e2 := f2.err (M := 10000) (by have := sq_nonneg (R .f32 v.Y); unfold Bd; constructor <;> grind)
  have f4 := fadd_fl f1.1 f2.1 (by have := Gr_ge; unfold Nr at e1 e2; unfold Bd; constructor <;> grind)
  have n4 := fadd_nn f1.1 f2.1 (by grind)
  have n5 := fadd_nn f4.1 f3.1 (by grind)
  have e : fadd .f32 (fadd .f32 (fmul .f32 v.X v.X) (fmul .f32 v.Y v.Y)) (fmul .f32 v.Z v.Z) = innerN v.X v.Y v.Z := rfl
  rw [e] at n5
  exact ⟨n, root_nn i1 n5 (by unfold Nr at i2; grind)⟩

theorem arc_comm {a b : Vec} (ha : Unit3 a) (hb : Unit3 b) : arcN a b = arcN b a := by
  have hG := Gr_ge
  have op : ∀ {u v : Nat} {c d : Rat}, I .f32 u (some (-2, 2)) → I .f32 v (some (-2, 2)) → fmul .f32 (fsub .f32 v u) (fsub .f32 v u) = fmul .f32 (fsub .f32 u v) (fsub .f32 u v) := fun {u v c d} hu hv => by
    have n1 := (I.sub hu hv).to (lo := -5) (hi := 5) (by decide +kernel)
    have n2 := (I.sub hv hu).to (lo := -5) (hi := 5) (by decide +kernel)
    exact sq_opp n1.1 n2.1 (fsub_opp hu.1 hv.1 (by have := hu.2; have := hv.2; unfold Bd; constructor <;> grind))
  have m : ∀ {u v : Nat}, I .f32 u (some (-11 / 10, 11 / 10)) → I .f32 v (some (-11 / 10, 11 / 10)) → I .f32 (fmul .f32 u v) (some (-2, 2)) := fun hu hv => (I.mul hu hv).to (by decide +kernel)
  have hi : impl_InnerOf b a = impl_InnerOf a b := by
    rw [Inner_eq, Inner_eq, fmul_comm hb.x.1 ha.x.1, fmul_comm hb.y.1 ha.y.1, fmul_comm hb.z.1 ha.z.1]
  have hc : impl_SizeOfVector (impl_CrossOf b a) = impl_SizeOfVector (impl_CrossOf a b) := by
    rw [Size_eq, Size_eq, Cross_eq, Cross_eq]
    simp only
    unfold innerN
    rw [fmul_comm hb.y.1 ha.z.1, fmul_comm hb.z.1 ha.y.1, fmul_comm hb.z.1 ha.x.1, fmul_comm hb.x.1 ha.z.1, fmul_comm hb.x.1 ha.y.1, fmul_comm hb.y.1 ha.x.1]
    rw [op (c := 0) (d := 0) (m ha.y hb.z) (m ha.z hb.y), op (c := 0) (d := 0) (m ha.z hb.x) (m ha.x hb.z), op (c := 0) (d := 0) (m ha.x hb.y) (m ha.y hb.x)]
  unfold arcN
  rw [hi, hc]

theorem arc_bd {a b : Vec} (ha : Unit3 a) (hb : Unit3 b) : impl_AngleTurns_need (impl_SizeOfVector (impl_CrossOf a b)) (impl_InnerOf a b) = true ∧ isNum .f32 (arcN a b) = true ∧ 0 ≤ R .f32 (arcN a b) ∧ R .f32 (arcN a b) ≤ 5005 / 10000 := by
  obtain ⟨c1, c2, c3⟩ := cross_I ha hb
  obtain ⟨s1, s2⟩ := size_num (M := 3) (by decide +kernel) c1 c2 c3
  exact angle_pos s1 (inner_I ha hb).1 s2

theorem c_S128 : S 128 = 1 := by decide +kernel

theorem arc_self {a : Vec} (ha : Unit3 a) (h1 : Nr (R .f32 a.X * R .f32 a.X + R .f32 a.Y * R .f32 a.Y + R .f32 a.Z * R .f32 a.Z) 1 (1 / 100000)) : R .f32 (arcN a a) ≤ 5 / 10000 := by
  have hT := T_le
  have hT0 := T_pos
  obtain ⟨c1, c2, c3⟩ := cross_I ha ha
  obtain ⟨s1, s2⟩ := size_num (M := 3) (by decide +kernel) c1 c2 c3
  have i := inner_I ha ha
  have m : ∀ {u v : Nat}, I .f32 u (some (-11 / 10, 11 / 10)) → I .f32 v (some (-11 / 10, 11 / 10)) → I .f32 (fmul .f32 u v) (some (-2, 2)) := fun hu hv => (I.mul hu hv).to (by decide +kernel)
  have z : ∀ {u v : Nat}, I .f32 u (some (-11 / 10, 11 / 10)) → I .f32 v (some (-11 / 10, 11 / 10)) → R .f32 (fsub .f32 (fmul .f32 u v) (fmul .f32 v u)) = 0 := fun hu hv => by
    rw [fmul_comm hv.1 hu.1]
    exact fsub_same (m hu hv).1
  have zx := z ha.y ha.z
  have zy := z ha.z ha.x
  have zz := z ha.x ha.y
  have ex : R .f32 (impl_CrossOf a a).X = 0 := zx
  have ey : R .f32 (impl_CrossOf a a).Y = 0 := zy
  have ez : R .f32 (impl_CrossOf a a).Z = 0 := zz
  obtain ⟨-, -, n, ρ, r1, r2, r3⟩ := size_fl (B := 1) c1.1 c2.1 c3.1 (by rw [ex, ey, ez]; decide +kernel) (by decide +kernel)
  rw [ex, ey, ez] at r2
  have hρ : ρ ≤ 1 / 100000000000 := le_of_sq (by decide +kernel) (by unfold Nr at r2; grind)
  rw [← Size_eq] at r3 n
  -- the inner product
  have hi : Nr (R .f32 (impl_InnerOf a a)) 1 (2 / 100000) := by
    have e : impl_InnerOf a a = innerN a.X a.Y a.Z := rfl
    obtain ⟨i1, i2⟩ := inner_fl (B := 2) ha.x.1 ha.y.1 ha.z.1 (by unfold Nr at h1; grind) (by decide +kernel)
    rw [e]
    unfold Nr at *
    constructor <;> grind
  obtain ⟨-, -, z, z1, -, z2⟩ := angle_T (L := 1) (ε := 3 / 100000) (sx := false) (sy := false) (j := 0) (by decide) s1 i.1 (by decide +kernel) (by decide +kernel) (by decide +kernel)
    (by rw [S_zero]; show Nr _ (1 * 0) _; unfold Nr at *; constructor <;> grind)
    (by rw [show 128 - 0 = 128 from rfl, c_S128]; show Nr _ (1 * 1) _; unfold Nr at *; constructor <;> grind)
  rw [z1 rfl] at z2
  have e0 : sgn false (if false = true then 1 / 2 - (((0 : Nat) : Int) : Rat) / 512 else (((0 : Nat) : Int) : Rat) / 512) + ((0 : Int) : Rat) = 0 := by decide +kernel
  rw [e0] at z2
  unfold arcN
  unfold Nr at z2
  grind

end Go.Proofs.Ytkhjcoekmamlaaa
