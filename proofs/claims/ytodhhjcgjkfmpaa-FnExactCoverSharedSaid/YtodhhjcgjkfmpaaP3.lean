/- Plain law, part 3: polygons. -/
import Derived.Test.YtodhhjcgjkfmpaaP2
namespace Go.Proofs.Ytodhhjcgjkfmpaa
set_option linter.unusedVariables false
set_option linter.unusedSimpArgs false

theorem within_same (a b c : Int) : impl_within a b c = spec_l00In a b c := rfl
theorem aLength_same (x : Nat) : impl_aLength_need x = true ∧ impl_aLength x = spec_l02Above x := by
  unfold impl_aLength_need impl_aLength impl_aLength_tree spec_l02Above spec_l02Above_tree
  simp only [DT.ok, DT.val, IsFinite_need, IsFinite_eq, l01Finite_eq]
  cases isNum .f32 x <;> constructor <;> first | trivial | rfl
theorem aMass_same (x : Nat) : impl_aMass_need x = true ∧ impl_aMass x = spec_l02Least x := by
  unfold impl_aMass_need impl_aMass impl_aMass_tree spec_l02Least spec_l02Least_tree
  simp only [DT.ok, DT.val, IsFinite_need, IsFinite_eq, l01Finite_eq]
  cases isNum .f32 x <;> constructor <;> first | trivial | rfl

theorem poly_loop0 (n : Int) (x y : Nat) (h1 : 2 ≤ n) (h2 : n ≤ 16) : spec_PolygonBodies_loop0_ends (n, x, y) (0, 1) = true ∧ impl_PolygonBodies_loop0_ends (n, x, y) (0, 1) = true ∧ impl_PolygonBodies_loop0 (n, x, y) (0, 1) = spec_PolygonBodies_loop0 (n, x, y) (0, 1) := by
  obtain ⟨e1, e2⟩ := loop_same (step := impl_PolygonBodies_loop0_step (n, x, y)) (step' := spec_PolygonBodies_loop0_step (n, x, y)) (fun s => by
    unfold impl_PolygonBodies_loop0_step spec_PolygonBodies_loop0_step
    simp only [(sine_same _).1, (sine_same _).2.1, (sine_same _).2.2])
  have h := loop_post (step := spec_PolygonBodies_loop0_step (n, x, y)) (fun s => 1 ≤ s.2 ∧ s.2 ≤ n) (fun s => (n - s.2).toNat) (fun _ => True) (by
    rintro ⟨a, i⟩ ⟨hi, hn⟩
    simp only at hi hn
    by_cases hlt : i < n
    · have hd : decide (i < n) = true := decide_eq_true hlt
      have hw : IntKind.wrap .i64 (i + 1) = i + 1 := wrap_small (by omega) (by omega)
      refine ⟨.inl (fadd .f32 a (fdiv .f32 1065353216 (spec_l01Sine (fdiv .f32 (fofInt .f32 i) (fofInt .f32 (IntKind.wrap .i64 (2 * n)))))), i + 1), [], ?_, ⟨by show 1 ≤ i + 1; omega, by show i + 1 ≤ n; omega⟩, ?_⟩
      · unfold spec_PolygonBodies_loop0_step
        simp only [DT.get, hd, (sine_same _).2.1, hw]
      · show (n - (i + 1)).toNat < (n - i).toNat
        omega
    · have hd : decide (i < n) = false := decide_eq_false hlt
      refine ⟨.inr a, [], ?_, trivial⟩
      unfold spec_PolygonBodies_loop0_step
      simp only [DT.get, hd]) (0, 1) ⟨by decide, by show 1 ≤ n; omega⟩
  have he : spec_PolygonBodies_loop0_ends (n, x, y) (0, 1) = true := h.1
  exact ⟨he, (e2 (0, 1)).trans he, e1 (0, 1)⟩

theorem poly_loop1 (n : Int) (x y w : Nat) (h1 : 2 ≤ n) (h2 : n ≤ 16) : spec_PolygonBodies_loop1_ends (n, x, y, w) (0, []) = true ∧ impl_PolygonBodies_loop1_ends (n, x, y, w, n) (0, []) = true ∧ impl_PolygonBodies_loop1 (n, x, y, w, n) (0, []) = spec_PolygonBodies_loop1 (n, x, y, w) (0, []) ∧ (spec_PolygonBodies_loop1 (n, x, y, w) (0, [])).length ≤ 16 := by
  obtain ⟨e1, e2⟩ := loop_same (step := impl_PolygonBodies_loop1_step (n, x, y, w, n)) (step' := spec_PolygonBodies_loop1_step (n, x, y, w)) (fun s => by
    unfold impl_PolygonBodies_loop1_step spec_PolygonBodies_loop1_step
    simp only [(sine_same _).1, (sine_same _).2.1, (sine_same _).2.2, DT.map])
  have h := loop_post (step := spec_PolygonBodies_loop1_step (n, x, y, w)) (fun s => 0 ≤ s.1 ∧ s.1 ≤ n ∧ (s.2.length : Int) = s.1) (fun s => (n - s.1).toNat) (fun r => r.length ≤ 16) (by
    rintro ⟨i, l⟩ ⟨hi, hn, hl⟩
    simp only at hi hn hl
    by_cases hlt : i < n
    · have hd : decide (i < n) = true := decide_eq_true hlt
      have hw : IntKind.wrap .i64 (i + 1) = i + 1 := wrap_small (by omega) (by omega)
      have hb1 : decide ((List.length l + 1) * 28 ≤ 140737488355328) = true := decide_eq_true (by omega)
      have hb2 : decide (List.length l + 1 ≤ 9223372036854775807) = true := decide_eq_true (by omega)
      have hg : ∃ b : Body, (spec_PolygonBodies_loop1_step (n, x, y, w) (i, l)).get = some (.inl (i + 1, l ++ [b]), [305]) := by
        refine ⟨Body.mk ⟨fmul .f32 x (spec_l01Sine (fadd .f32 (fdiv .f32 (fofInt .f32 i) (fofInt .f32 n)) 1048576000)), fmul .f32 x (spec_l01Sine (fdiv .f32 (fofInt .f32 i) (fofInt .f32 n))), 0⟩ ⟨fneg .f32 (fmul .f32 w (fmul .f32 x (spec_l01Sine (fdiv .f32 (fofInt .f32 i) (fofInt .f32 n))))), fmul .f32 w (fmul .f32 x (spec_l01Sine (fadd .f32 (fdiv .f32 (fofInt .f32 i) (fofInt .f32 n)) 1048576000))), 0⟩ y, ?_⟩
        unfold spec_PolygonBodies_loop1_step
        simp only [DT.get, hd, (sine_same _).2.1, hw, List.length_singleton, hb1, hb2, Bool.and_self]
      obtain ⟨b, hg⟩ := hg
      refine ⟨_, _, hg, ⟨by show 0 ≤ i + 1; omega, by show i + 1 ≤ n; omega, ?_⟩, ?_⟩
      · show ((l ++ [b]).length : Int) = i + 1
        rw [List.length_append, List.length_singleton]
        omega
      · show (n - (i + 1)).toNat < (n - i).toNat
        omega
    · have hd : decide (i < n) = false := decide_eq_false hlt
      refine ⟨.inr l, [0], ?_, by show l.length ≤ 16; omega⟩
      unfold spec_PolygonBodies_loop1_step
      simp only [DT.get, hd]) (0, []) ⟨by decide, by show 0 ≤ n; omega, rfl⟩
  have he : spec_PolygonBodies_loop1_ends (n, x, y, w) (0, []) = true := h.1
  exact ⟨he, (e2 (0, [])).trans he, e1 (0, []), h.2⟩

theorem polygon_same (n : Int) (x y : Nat) : impl_PolygonBodies_need n x y = true ∧ spec_PolygonBodies_need n x y = true ∧ impl_PolygonBodies n x y = spec_PolygonBodies n x y ∧ ∀ l, spec_PolygonBodies n x y = .inr l → l.length ≤ 16 := by
  unfold impl_PolygonBodies_need spec_PolygonBodies_need impl_PolygonBodies spec_PolygonBodies impl_PolygonBodies_tree spec_PolygonBodies_tree
  cases hin : spec_l00In n 2 16 with
  | false =>
    simp only [DT.ok, DT.val, within_same, hin, Bool.not_false]
    exact ⟨trivial, trivial, trivial, fun l h => by cases h⟩
  | true =>
    have hb : 2 ≤ n ∧ n ≤ 16 := by
      unfold spec_l00In spec_l00In_tree at hin
      by_cases h1 : n ≥ 2
      · by_cases h2 : n ≤ 16
        · exact ⟨h1, h2⟩
        · simp [DT.val, h1, h2] at hin
      · simp [DT.val, h1] at hin
    obtain ⟨l1, l2, l3⟩ := poly_loop0 n x y hb.1 hb.2
    cases ha : spec_l02Above x with
    | false =>
      simp only [DT.ok, DT.val, within_same, hin, Bool.not_true, (aLength_same _).1, (aLength_same _).2, ha, Bool.not_false]
      exact ⟨trivial, trivial, trivial, fun l h => by cases h⟩
    | true =>
      cases hm : spec_l02Least y with
      | false =>
        simp only [DT.ok, DT.val, within_same, hin, Bool.not_true, (aLength_same _).1, (aLength_same _).2, ha, (aMass_same _).1, (aMass_same _).2, hm, Bool.not_false]
        exact ⟨trivial, trivial, trivial, fun l h => by cases h⟩
      | true =>
        simp only [DT.ok, DT.val, within_same, hin, Bool.not_true, (aLength_same _).1, (aLength_same _).2, ha, (aMass_same _).1, (aMass_same _).2, hm, l1, l2, l3, (root_same _).1, (root_same _).2.1, (root_same _).2.2]
        generalize spec_l01Sqrt (fdiv .f32 (fmul .f32 y (spec_PolygonBodies_loop0 (n, x, y) (0, 1))) (fmul .f32 (fmul .f32 (fmul .f32 1082130432 x) x) x)) = w
        obtain ⟨m1, m2, m3, m4⟩ := poly_loop1 n x y w hb.1 hb.2
        obtain ⟨g1, g2, g3, g4⟩ := give_same (spec_PolygonBodies_loop1 (n, x, y, w) (0, [])) (by omega)
        simp only [m1, m2, m3, g1, g2, g3, g4]
        cases okL (spec_PolygonBodies_loop1 (n, x, y, w) (0, [])) with
        | false =>
          simp only [cond_false, isL]
          exact ⟨trivial, trivial, trivial, fun l h => by cases h⟩
        | true =>
          simp only [cond_true, isL]
          exact ⟨trivial, trivial, trivial, fun l h => by cases h; exact m4⟩

/-- The law of polygons. -/
theorem plain6 (n : Int) (x y : Nat) : laws_FnExactPolygonBodies_need n x y = true ∧ laws_FnExactPolygonBodies n x y = true := by
  obtain ⟨h1, h2, h3, h4⟩ := polygon_same n x y
  unfold laws_FnExactPolygonBodies_need laws_FnExactPolygonBodies laws_FnExactPolygonBodies_tree
  cases hv : spec_PolygonBodies n x y with
  | inl u =>
    obtain ⟨e1, e2⟩ := eqBodyS_self [] (by decide)
    obtain ⟨k1, k2, k3, k4⟩ := mark_all [] (by decide)
    obtain ⟨d1, d2⟩ := held_all [] (by decide) (fun j hj => absurd hj (Nat.not_lt_zero j))
    have k2 : (laws_markBodyS [] 1).1 = 1 := k2
    have d2 : laws_heldBodyS [] 1 = 1 := d2
    have c1 : decide ((1 : Int) < 0) = false := rfl
    have c2 : ((1 : Int) != 1) = false := rfl
    simp only [DT.ok, DT.val, h1, h2, h3, hv, isL, e1, e2, Bool.not_true, k1, k2, d1, d2, c1, c2]
    exact ⟨trivial, trivial⟩
  | inr l =>
    have hl := h4 l hv
    obtain ⟨e1, e2⟩ := eqBodyS_self l (by omega)
    obtain ⟨k1, k2, k3, k4⟩ := mark_all l (by omega)
    obtain ⟨d1, d2⟩ := held_all (laws_markBodyS l 1).2 (by omega) (fun j hj => k4 j (by omega))
    rw [k3] at d2
    have c1 : decide (1 + 7 * (l.length : Int) < 0) = false := decide_eq_false (by omega)
    have c2 : ((1 + 7 * (l.length : Int)) != 1 + 7 * (l.length : Int)) = false := by simp
    simp only [DT.ok, DT.val, h1, h2, h3, hv, isL, rightD, e1, e2, Bool.not_true, k1, k2, d1, d2, c1, c2]
    exact ⟨trivial, trivial⟩

end Go.Proofs.Ytodhhjcgjkfmpaa
