/- The plain law of FnPasses, part 10: the whole. -/
import Derived.Test.YtkmcgfjhjfiomaaQ9
namespace Go.Proofs.Ytkmcgfjhjfiomaa
set_option linter.unusedVariables false
set_option linter.unusedSimpArgs false

/-- What the law finds of suns and shadows. -/
structure Suns (b : Ball) (o : Orbit) (s : Vec) : Prop where
  d1 : impl_InShadow_need b s (impl_ScaleVector s 3221225472) = true
  d2 : impl_InShadow b s (impl_ScaleVector s 3221225472) = (true, true)
  l1 : impl_InShadow_need b s (impl_ScaleVector s 1073741824) = true
  l2 : impl_InShadow b s (impl_ScaleVector s 1073741824) = (false, true)
  b1 : impl_InShadow_need b s ⟨fneg .f32 s.X, fneg .f32 s.Y, fmul .f32 b.Radius 1073741824⟩ = true
  b2 : impl_InShadow b s ⟨fneg .f32 s.X, fneg .f32 s.Y, fmul .f32 b.Radius 1073741824⟩ = (false, true)
  s1 : impl_ShadowShare_need b o s 8 = true
  s2 : (impl_ShadowShare b o s 8).2 = true
  s3 : fge .f32 (impl_ShadowShare b o s 8).1 0 = true
  s4 : fle .f32 (impl_ShadowShare b o s 8).1 1065353216 = true

theorem suns_of {b : Ball} {o : Orbit} {s : Vec} (hb : BallS b) (ho : OrbS o) (hs : SunS s) (hd1 : flt .f32 (shA s (impl_ScaleVector s 3221225472)) 0 = true) (hd2 : flt .f32 (shB s (impl_ScaleVector s 3221225472)) b.Radius = true)
    (hl : flt .f32 (shA s (impl_ScaleVector s 1073741824)) 0 = false) (hbs : flt .f32 (shB s ⟨fneg .f32 s.X, fneg .f32 s.Y, fmul .f32 b.Radius 1073741824⟩) b.Radius = false) : Suns b o s := by
  have c2 : I .f32 1073741824 (some (2, 2)) := I.at (by decide +kernel)
  have m2 : I .f32 3221225472 (some (-2, -2)) := I.at (by decide +kernel)
  have x1 := (I.mul hs.x m2).to (lo := -12000) (hi := 12000) (by decide +kernel)
  have x2 := (I.mul hs.y m2).to (lo := -12000) (hi := 12000) (by decide +kernel)
  have x3 := (I.mul hs.z m2).to (lo := -12000) (hi := 12000) (by decide +kernel)
  have y1 := (I.mul hs.x c2).to (lo := -12000) (hi := 12000) (by decide +kernel)
  have y2 := (I.mul hs.y c2).to (lo := -12000) (hi := 12000) (by decide +kernel)
  have y3 := (I.mul hs.z c2).to (lo := -12000) (hi := 12000) (by decide +kernel)
  have w1 := (I.neg hs.x).to (lo := -12000) (hi := 12000) (by decide +kernel)
  have w2 := (I.neg hs.y).to (lo := -12000) (hi := 12000) (by decide +kernel)
  have w3 := (I.mul hb.radius c2).to (lo := -12000) (hi := 12000) (by decide +kernel)
  have v1 : VecI (impl_ScaleVector s 3221225472) 12000 := ⟨x1, x2, x3⟩
  have v2 : VecI (impl_ScaleVector s 1073741824) 12000 := ⟨y1, y2, y3⟩
  have v3 : VecI ⟨fneg .f32 s.X, fneg .f32 s.Y, fmul .f32 b.Radius 1073741824⟩ 12000 := ⟨w1, w2, w3⟩
  obtain ⟨d1, d2⟩ := shadow_I hb hs v1
  obtain ⟨l1, l2⟩ := shadow_I hb hs v2
  obtain ⟨b1, b2⟩ := shadow_I hb hs v3
  obtain ⟨s1, s2, s3, s4⟩ := share_all hb ho hs
  exact ⟨d1, by rw [d2, hd1, hd2]; rfl, l1, by rw [l2, hl]; rfl, b1, by rw [b2, hbs, Bool.and_false], s1, s2, s3, s4⟩

theorem suns {b : Ball} {o : Orbit} (hb : BallS b) (ho : OrbS o) {r : Fin 8} (hr : b.Radius = radN r.val) {k j : Nat} (hk : k < 4) (hj : j < 5) : Suns b o (sunN k j) := by
  have hd := dark_c ⟨k, hk⟩ ⟨j, hj⟩
  rw [Bool.and_eq_true] at hd
  have hl := light_c ⟨k, hk⟩ ⟨j, hj⟩
  have hbs := beside_c ⟨k, hk⟩ ⟨j, hj⟩ r
  have hbe : besN k j r.val = ⟨fneg .f32 (sunN k j).X, fneg .f32 (sunN k j).Y, fmul .f32 b.Radius 1073741824⟩ := by unfold besN; rw [hr]
  simp only at hd hl hbs
  rw [hbe, ← hr] at hbs
  exact suns_of hb ho (sunS hk hj) hd.1 (I.lt (I.at hd.2) hb.radius (by decide +kernel)) hl hbs

/-- What the law finds of the list of yes and no. -/
theorem seen_facts {a0 a1 : List Int} (hb : Bytes a1) (hlong : laws_r8Long a0 a1 = false) : ∃ l : List Bool, ∃ r s : List Int, ∃ a b : Int,
    laws_FnPasses_loop0_ends (a0, a1) (0, []) = true ∧ laws_FnPasses_loop0 (a0, a1) (0, []) = l ∧
    impl_RisesIn_need l = true ∧ impl_RisesIn l = .inr r ∧ impl_SetsIn_need l = true ∧ impl_SetsIn l = .inr s ∧
    IntKind.wrap .i64 ((s.length : Int) + 1) = (s.length : Int) + 1 ∧ IntKind.wrap .i64 ((r.length : Int) + 1) = (r.length : Int) + 1 ∧
    decide ((r.length : Int) > (s.length : Int) + 1) = false ∧ decide ((s.length : Int) > (r.length : Int) + 1) = false ∧
    laws_FnPasses_loop1_ends (a0, a1, l, r, s) (0, false, 0) = true ∧ laws_FnPasses_loop1 (a0, a1, l, r, s) (0, false, 0) = (IntKind.wrap .i64 ((r.length : Int) + (s.length : Int)), someB l l.length) ∧
    impl_LongestPass_need l = true ∧ LongP l l.length a b ∧ l.length ≤ 17 ∧ ((b = 0 ∧ impl_LongestPass l = (0, 0, false)) ∨ (0 < b ∧ impl_LongestPass l = (a, b, true))) := by
  obtain ⟨e1, e2, e3⟩ := loop0_seen a0 hb
  generalize hl : laws_FnPasses_loop0 (a0, a1) (0, []) = l at *
  obtain ⟨r1, r, r2, r3⟩ := rises_eq l (by omega) (by omega)
  obtain ⟨s1, s, s2, s3⟩ := sets_eq l (by omega) (by omega)
  obtain ⟨t1, t2⟩ := turns_near l l.length (by omega)
  have c1 := cnt_le l true l.length
  have c2 := cnt_le l false l.length
  obtain ⟨g1, g2⟩ := loop1_seen a0 a1 l r s (by omega)
  obtain ⟨h1, a, b, h2, h3⟩ := long_eq l (by omega)
  refine ⟨l, r, s, a, b, e1, rfl, r1, r2, s1, s2, wrap_small (by omega) (by omega), wrap_small (by omega) (by omega), decide_eq_false (by omega), decide_eq_false (by omega), g1, ?_, h1, h2, by omega, h3⟩
  rw [g2, wrap_small (by omega) (by omega), r3, s3]
  push_cast
  rfl

theorem long_no {a0 a1 : List Int} (h : laws_r8Long a0 a1 = false) : a0.length ≤ 48 ∧ a1.length ≤ 48 := by
  unfold laws_r8Long laws_r8Long_tree at h
  simp only [DT.val] at h
  by_cases g : ((a0.length : Nat) : Int) > 48
  · rw [decide_eq_true g] at h
    cases h
  · rw [decide_eq_false g] at h
    by_cases g2 : ((a1.length : Nat) : Int) > 48
    · rw [decide_eq_true g2] at h
      cases h
    · omega

end Go.Proofs.Ytkmcgfjhjfiomaa
