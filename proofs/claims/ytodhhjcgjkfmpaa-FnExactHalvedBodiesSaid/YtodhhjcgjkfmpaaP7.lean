/- Plain law, part 7: many steps; steps of the fourth order. -/
import Derived.Test.YtodhhjcgjkfmpaaP6
namespace Go.Proofs.Ytodhhjcgjkfmpaa
set_option linter.unusedVariables false
set_option linter.unusedSimpArgs false

theorem stepP_len {l r : List Body} {c t : Nat} (h : stepP l c t = .inr r) : r.length = l.length := by
  unfold stepP at h
  split at h
  · cases h
  · simp only at h
    split at h
    · cases h
    · split at h
      · cases h
      · split at h
        · cases h
        · cases h
          rw [kickL_len, moveL_len, kickL_len]

theorem step_num (l : List Body) (c t : Nat) (hl : okL l = true) (hc : spec_l02Least c = true) (ht : isNum .f32 t = true) : impl_StepBodies_need l c t = true ∧ impl_StepBodies l c t = stepP l c t := by
  have h16 := okL_len hl
  obtain ⟨a1, a2⟩ := step_impl l c t (by omega)
  rw [ht, hl, hc] at a2
  exact ⟨a1, a2⟩

/-- A round of steps, in plain words. -/
noncomputable def runRound (n : Int) (c t : Nat) (s : Int × List Body) : (Int × List Body) ⊕ (Unit ⊕ List Body) := match decide (s.1 < n) with
  | true => match stepP s.2 c t with
    | .inl _ => .inr (.inl ())
    | .inr r => .inl (s.1 + 1, r)
  | false => .inr (.inr s.2)

theorem run_spec_round (n : Int) (c t : Nat) (hn : n ≤ 2 ^ 40) (s : Int × List Body) (h0 : 0 ≤ s.1) (hok : okL s.2 = true) : ∃ fl, (spec_l02Run_loop0_step (c, t, n) s).get = some (runRound n c t s, fl) := by
  obtain ⟨i, l⟩ := s
  simp only at h0 hok
  obtain ⟨a1, a2⟩ := step_spec l c t hok
  unfold spec_l02Run_loop0_step runRound
  cases hd : decide (i < n) with
  | false =>
    refine ⟨[0], ?_⟩
    simp only [DT.get, hd]
  | true =>
    have hlt := of_decide_eq_true hd
    have hw : IntKind.wrap .i64 (i + 1) = i + 1 := wrap_small (by omega) (by omega)
    cases hs : stepP l c t with
    | inl u =>
      refine ⟨[], ?_⟩
      simp only [DT.get, hd, a1, a2, hs, isL]
    | inr r =>
      refine ⟨[49], ?_⟩
      simp only [DT.get, hd, a1, a2, hs, isL, rightD, hw]

theorem run_impl_round (n : Int) (c t : Nat) (hn : n ≤ 2 ^ 40) (hc : spec_l02Least c = true) (ht : isNum .f32 t = true) (s : Int × List Body) (h0 : 0 ≤ s.1) (hok : okL s.2 = true) : ∃ fl, (impl_RunBodies_loop0_step (c, t, n) s).get = some (runRound n c t s, fl) := by
  obtain ⟨i, l⟩ := s
  simp only at h0 hok
  obtain ⟨a1, a2⟩ := step_num l c t hok hc ht
  unfold impl_RunBodies_loop0_step runRound
  cases hd : decide (i < n) with
  | false =>
    refine ⟨[0], ?_⟩
    simp only [DT.get, hd]
  | true =>
    have hlt := of_decide_eq_true hd
    have hw : IntKind.wrap .i64 (i + 1) = i + 1 := wrap_small (by omega) (by omega)
    cases hs : stepP l c t with
    | inl u =>
      refine ⟨[], ?_⟩
      simp only [DT.get, hd, a1, a2, hs, isL]
    | inr r =>
      refine ⟨[33], ?_⟩
      simp only [DT.get, hd, a1, a2, hs, isL, rightD, hw]

theorem run_spec_loop (l : List Body) (c t : Nat) (n : Int) (hok : okL l = true) (hn : n ≤ 2 ^ 40) : spec_l02Run_loop0_ends (c, t, n) (0, l) = true ∧ ∀ r, spec_l02Run_loop0 (c, t, n) (0, l) = .inr r → okL r = true ∧ r.length = l.length := by
  obtain ⟨h1, h2⟩ := loop_post (step := spec_l02Run_loop0_step (c, t, n)) (fun s => 0 ≤ s.1 ∧ okL s.2 = true ∧ s.2.length = l.length) (fun s => (n - s.1).toNat) (fun r => ∀ q, r = .inr q → okL q = true ∧ q.length = l.length) (by
    rintro ⟨i, m⟩ ⟨h0, hm, hlen⟩
    simp only at h0 hm hlen
    obtain ⟨fl, hg⟩ := run_spec_round n c t hn (i, m) h0 hm
    refine ⟨_, fl, hg, ?_⟩
    unfold runRound
    cases hd : decide (i < n) with
    | false =>
      simp only [hd]
      exact fun q hq => by cases hq; exact ⟨hm, hlen⟩
    | true =>
      have hlt := of_decide_eq_true hd
      simp only [hd]
      cases hs : stepP m c t with
      | inl u => exact fun q hq => by cases hq
      | inr r =>
        refine ⟨⟨by show 0 ≤ i + 1; omega, stepP_ok hs, (stepP_len hs).trans hlen⟩, ?_⟩
        show (n - (i + 1)).toNat < (n - i).toNat
        omega) (0, l) ⟨Int.le_refl _, hok, rfl⟩
  exact ⟨h1, h2⟩

theorem run_loops (l : List Body) (c t : Nat) (n : Int) (hok : okL l = true) (hn : n ≤ 2 ^ 40) (hc : spec_l02Least c = true) (ht : isNum .f32 t = true) : impl_RunBodies_loop0_ends (c, t, n) (0, l) = true ∧ impl_RunBodies_loop0 (c, t, n) (0, l) = spec_l02Run_loop0 (c, t, n) (0, l) := by
  obtain ⟨h1, h2⟩ := run_spec_loop l c t n hok hn
  obtain ⟨g1, g2⟩ := val_rel (step := spec_l02Run_loop0_step (c, t, n)) (step' := impl_RunBodies_loop0_step (c, t, n)) (fun s s' => s = s' ∧ 0 ≤ s.1 ∧ okL s.2 = true) (fun r r' => r' = r) (by
    rintro s s' ⟨rfl, h0, hm⟩ o fl ho
    obtain ⟨fl1, hg1⟩ := run_spec_round n c t hn s h0 hm
    obtain ⟨fl2, hg2⟩ := run_impl_round n c t hn hc ht s h0 hm
    rw [hg1] at ho
    simp only [Option.some.injEq, Prod.mk.injEq] at ho
    obtain ⟨rfl, rfl⟩ := ho
    refine ⟨_, fl2, hg2, ?_⟩
    unfold runRound
    cases hd : decide (s.1 < n) with
    | false => rfl
    | true =>
      simp only [hd]
      cases hs : stepP s.2 c t with
      | inl u => rfl
      | inr r => exact ⟨rfl, by show 0 ≤ s.1 + 1; omega, stepP_ok hs⟩) (s := (0, l)) (s' := (0, l)) ⟨rfl, Int.le_refl _, hok⟩ h1
  exact ⟨g1, g2⟩

theorem run_spec (l : List Body) (c t : Nat) (n : Int) (hok : okL l = true) (hn : n ≤ 2 ^ 40) : spec_l02Run_need l c t n = true ∧ spec_l02Run l c t n = spec_l02Run_loop0 (c, t, n) (0, l) ∧ ∀ r, spec_l02Run l c t n = .inr r → okL r = true ∧ r.length = l.length := by
  have h16 := okL_len hok
  obtain ⟨o1, o2⟩ := own_same l (by omega)
  obtain ⟨h1, h2⟩ := run_spec_loop l c t n hok hn
  have key : spec_l02Run l c t n = spec_l02Run_loop0 (c, t, n) (0, l) := by
    unfold spec_l02Run spec_l02Run_tree
    simp only [DT.val, o2]
    cases spec_l02Run_loop0 (c, t, n) (0, l) <;> rfl
  refine ⟨?_, key, fun r hr => h2 r (key.symm.trans hr)⟩
  unfold spec_l02Run_need spec_l02Run_tree
  simp only [DT.ok, o1, o2, h1]
  cases spec_l02Run_loop0 (c, t, n) (0, l) <;> rfl

theorem in_range {n : Int} (h : spec_l00In n 0 64 = true) : 0 ≤ n ∧ n ≤ 64 := by
  unfold spec_l00In spec_l00In_tree at h
  by_cases h1 : n ≥ 0
  · by_cases h2 : n ≤ 64
    · exact ⟨h1, h2⟩
    · simp [DT.val, h1, h2] at h
  · simp [DT.val, h1] at h

/-- Many steps: the program's and the reference's. -/
theorem run_same (l : List Body) (c t : Nat) (n : Int) (hl : l.length ≤ 2 ^ 40) : impl_RunBodies_need l c t n = true ∧ impl_RunBodies l c t n = match (isNum .f32 t && (okL l && spec_l02Least c)) && spec_l00In n 0 64 with
    | false => .inl ()
    | true => spec_l02Run l c t n := by
  obtain ⟨a1, a2⟩ := AreBodies_eq l (by omega)
  have hcc : impl_isCore_need c = true ∧ impl_isCore c = spec_l02Least c := aMass_same c
  have hwi : impl_within n 0 64 = spec_l00In n 0 64 := rfl
  have hb1 : decide ((0 + List.length l) * 28 ≤ 140737488355328) = true := decide_eq_true (by omega)
  have hb2 : decide (0 + List.length l ≤ 9223372036854775807) = true := decide_eq_true (by omega)
  unfold impl_RunBodies_need impl_RunBodies impl_RunBodies_tree
  cases hok : okL l with
  | false =>
    simp only [DT.ok, DT.val, a1, a2, hok, Bool.not_false, Bool.false_and, Bool.and_false]
    exact ⟨trivial, trivial⟩
  | true =>
    cases hc : spec_l02Least c with
    | false =>
      simp only [DT.ok, DT.val, a1, a2, hok, Bool.not_true, hcc.1, hcc.2, hc, Bool.not_false, Bool.false_and, Bool.and_false]
      exact ⟨trivial, trivial⟩
    | true =>
      cases ht : isNum .f32 t with
      | false =>
        simp only [DT.ok, DT.val, a1, a2, hok, Bool.not_true, hcc.1, hcc.2, hc, IsFinite_need, IsFinite_eq, ht, Bool.not_false, Bool.false_and]
        exact ⟨trivial, trivial⟩
      | true =>
        cases hn : spec_l00In n 0 64 with
        | false =>
          simp only [DT.ok, DT.val, a1, a2, hok, Bool.not_true, hcc.1, hcc.2, hc, IsFinite_need, IsFinite_eq, ht, hwi, hn, Bool.not_false, Bool.and_false]
          exact ⟨trivial, trivial⟩
        | true =>
          have hr := in_range hn
          obtain ⟨r1, r2⟩ := run_loops l c t n hok (by omega) hc ht
          obtain ⟨s1, s2, s3⟩ := run_spec l c t n hok (by omega)
          simp only [DT.ok, DT.val, a1, a2, hok, Bool.not_true, hcc.1, hcc.2, hc, IsFinite_need, IsFinite_eq, ht, hwi, hn, List.length_nil, hb1, hb2, Bool.and_self, List.nil_append, r1, r2, s2]
          cases spec_l02Run_loop0 (c, t, n) (0, l) <;> simp only [isL, rightD] <;> exact ⟨trivial, trivial⟩

theorem RunBodies_same (l : List Body) (c t : Nat) (n : Int) (hl : l.length ≤ 2 ^ 40) : impl_RunBodies_need l c t n = true ∧ spec_RunBodies_need l c t n = true ∧ impl_RunBodies l c t n = spec_RunBodies l c t n ∧ ∀ r, spec_RunBodies l c t n = .inr r → r.length ≤ 16 := by
  obtain ⟨a1, a2⟩ := run_same l c t n hl
  obtain ⟨b1, b2⟩ := can_eq l c t hl
  have hst : spec_l02Steps n = spec_l00In n 0 64 := rfl
  refine ⟨a1, ?_⟩
  rw [a2]
  unfold spec_RunBodies_need spec_RunBodies spec_RunBodies_tree
  cases hc : isNum .f32 t && (okL l && spec_l02Least c) with
  | false =>
    simp only [DT.ok, DT.val, b1, b2, hc, Bool.not_false, Bool.false_and]
    exact ⟨trivial, trivial, fun r h => by cases h⟩
  | true =>
    cases hn : spec_l00In n 0 64 with
    | false =>
      simp only [DT.ok, DT.val, b1, b2, hc, Bool.not_true, hst, hn, Bool.not_false, Bool.and_false]
      exact ⟨trivial, trivial, fun r h => by cases h⟩
    | true =>
      have hok : okL l = true := by
        simp only [Bool.and_eq_true] at hc
        exact hc.2.1
      have hr := in_range hn
      obtain ⟨s1, s2, s3⟩ := run_spec l c t n hok (by omega)
      simp only [DT.ok, DT.val, b1, b2, hc, Bool.not_true, hst, hn, Bool.and_self, s1]
      cases hv : spec_l02Run l c t n with
      | inl u =>
        simp only [isL]
        exact ⟨trivial, trivial, fun r h => by cases h⟩
      | inr r =>
        simp only [isL, rightD]
        exact ⟨trivial, trivial, fun q h => by cases h; exact okL_len (s3 r hv).1⟩

/-- The law of many steps. -/
theorem plain11 (l : List Body) (hl : l.length ≤ maxLen) (c t : Nat) (n : Int) : laws_FnExactRunBodies_need l c t n = true ∧ laws_FnExactRunBodies l c t n = true := by
  have hs := sz_eq l hl
  unfold laws_FnExactRunBodies_need laws_FnExactRunBodies laws_FnExactRunBodies_tree
  by_cases hn : l.length ≤ 1048576
  · rw [decide_eq_true hn] at hs
    obtain ⟨t1, t2⟩ := toBodyS_eq l (by omega)
    obtain ⟨a1, a2, a3, a4⟩ := RunBodies_same l c t n (by omega)
    obtain ⟨m1, m2, m3, m4, m5, m6⟩ := marks l (by omega)
    cases hv : spec_RunBodies l c t n with
    | inl u =>
      obtain ⟨z1, z2, z3, z4, z5, z6⟩ := marks0
      simp only [DT.ok, DT.val, hs, Bool.not_true, t1, t2, a1, a2, a3, hv, isL, m1, m2, m3, m4, m5, m6, len_pos, len_ne, z1, z2, z3, z4, z5, z6, one_pos, one_ne]
      exact ⟨trivial, trivial⟩
    | inr r =>
      have hr := a4 r hv
      obtain ⟨z1, z2, z3, z4, z5, z6⟩ := marks r (by omega)
      simp only [DT.ok, DT.val, hs, Bool.not_true, t1, t2, a1, a2, a3, hv, isL, rightD, m1, m2, m3, m4, m5, m6, len_pos, len_ne, z1, z2, z3, z4, z5, z6]
      exact ⟨trivial, trivial⟩
  · rw [decide_eq_false hn] at hs
    simp only [DT.ok, DT.val, hs, Bool.not_false]
    exact ⟨trivial, trivial⟩

/-! ## Steps of the fourth order -/

theorem step_any (l : List Body) (c t : Nat) (hl : okL l = true) (hc : spec_l02Least c = true) : impl_StepBodies_need l c t = true ∧ impl_StepBodies l c t = match isNum .f32 t with
    | false => .inl ()
    | true => stepP l c t := by
  have h16 := okL_len hl
  obtain ⟨a1, a2⟩ := step_impl l c t (by omega)
  rw [hl, hc] at a2
  refine ⟨a1, ?_⟩
  rw [a2]
  cases isNum .f32 t <;> rfl

theorem g3 {a b c : Nat} : List.getD [a, b, c] 0 default = a ∧ List.getD [a, b, c] 1 default = b ∧ List.getD [a, b, c] 2 default = c ∧ decide (0 < List.length [a, b, c]) = true ∧ decide (1 < List.length [a, b, c]) = true ∧ decide (2 < List.length [a, b, c]) = true := ⟨rfl, rfl, rfl, rfl, rfl, rfl⟩

theorem Fourth_same (l : List Body) (c t : Nat) (hl : l.length ≤ 2 ^ 40) : impl_FourthBodies_need l c t = true ∧ spec_FourthBodies_need l c t = true ∧ impl_FourthBodies l c t = spec_FourthBodies l c t ∧ ∀ r, spec_FourthBodies l c t = .inr r → r.length ≤ 16 := by
  obtain ⟨a1, a2⟩ := AreBodies_eq l (by omega)
  obtain ⟨b1, b2⟩ := can_eq l c t hl
  have hcc : impl_isCore_need c = true ∧ impl_isCore c = spec_l02Least c := aMass_same c
  unfold impl_FourthBodies_need spec_FourthBodies_need impl_FourthBodies spec_FourthBodies impl_FourthBodies_tree spec_FourthBodies_tree
  cases hok : okL l with
  | false =>
    simp only [DT.ok, DT.val, a1, a2, b1, b2, hok, Bool.not_false, Bool.false_and, Bool.and_false]
    exact ⟨trivial, trivial, trivial, fun r h => by cases h⟩
  | true =>
    cases hc : spec_l02Least c with
    | false =>
      simp only [DT.ok, DT.val, a1, a2, b1, b2, hok, Bool.not_true, hcc.1, hcc.2, hc, Bool.not_false, Bool.and_false]
      exact ⟨trivial, trivial, trivial, fun r h => by cases h⟩
    | true =>
      cases ht : isNum .f32 t with
      | false =>
        simp only [DT.ok, DT.val, a1, a2, b1, b2, hok, Bool.not_true, hcc.1, hcc.2, hc, IsFinite_need, IsFinite_eq, ht, Bool.not_false, Bool.false_and]
        exact ⟨trivial, trivial, trivial, fun r h => by cases h⟩
      | true =>
        obtain ⟨p1, p2⟩ := step_any l c (fmul .f32 t 1068299356) hok hc
        obtain ⟨q1, q2⟩ := step_spec l c (fmul .f32 t 1068299356) hok
        simp only [DT.ok, DT.val, a1, a2, b1, b2, hok, Bool.not_true, hcc.1, hcc.2, hc, IsFinite_need, IsFinite_eq, ht, Bool.and_self, g3.1, g3.2.1, g3.2.2.1, g3.2.2.2.1, g3.2.2.2.2.1, g3.2.2.2.2.2, p1, p2, q1, q2, l01Finite_eq]
        cases hs : stepP l c (fmul .f32 t 1068299356) with
        | inl u =>
          cases isNum .f32 (fmul .f32 t 1068299356) <;> simp only [isL] <;> exact ⟨trivial, trivial, trivial, fun r h => by cases h⟩
        | inr m =>
          have hmo := stepP_ok hs
          cases hn : isNum .f32 (fmul .f32 t 1068299356) with
          | false =>
            simp only [isL, Bool.not_false]
            exact ⟨trivial, trivial, trivial, fun r h => by cases h⟩
          | true =>
            obtain ⟨p1, p2⟩ := step_any m c (fmul .f32 t 3218729143) hmo hc
            obtain ⟨q1, q2⟩ := step_spec m c (fmul .f32 t 3218729143) hmo
            simp only [isL, rightD, Bool.not_true, p1, p2, q1, q2]
            cases hs2 : stepP m c (fmul .f32 t 3218729143) with
            | inl u =>
              cases isNum .f32 (fmul .f32 t 3218729143) <;> simp only [isL] <;> exact ⟨trivial, trivial, trivial, fun r h => by cases h⟩
            | inr k =>
              have hko := stepP_ok hs2
              cases hn2 : isNum .f32 (fmul .f32 t 3218729143) with
              | false =>
                simp only [isL, Bool.not_false]
                exact ⟨trivial, trivial, trivial, fun r h => by cases h⟩
              | true =>
                obtain ⟨p1, p2⟩ := step_any k c (fmul .f32 t 1068299356) hko hc
                obtain ⟨q1, q2⟩ := step_spec k c (fmul .f32 t 1068299356) hko
                simp only [isL, rightD, Bool.not_true, p1, p2, q1, q2, hn]
                cases hs3 : stepP k c (fmul .f32 t 1068299356) with
                | inl u =>
                  simp only [isL]
                  exact ⟨trivial, trivial, trivial, fun r h => by cases h⟩
                | inr r =>
                  simp only [isL, rightD]
                  exact ⟨trivial, trivial, trivial, fun q h => by cases h; exact okL_len (stepP_ok hs3)⟩

/-- The law of steps of the fourth order. -/
theorem plain10 (l : List Body) (hl : l.length ≤ maxLen) (c t : Nat) : laws_FnExactFourthBodies_need l c t = true ∧ laws_FnExactFourthBodies l c t = true := by
  have hs := sz_eq l hl
  unfold laws_FnExactFourthBodies_need laws_FnExactFourthBodies laws_FnExactFourthBodies_tree
  by_cases hn : l.length ≤ 1048576
  · rw [decide_eq_true hn] at hs
    obtain ⟨t1, t2⟩ := toBodyS_eq l (by omega)
    obtain ⟨a1, a2, a3, a4⟩ := Fourth_same l c t (by omega)
    obtain ⟨m1, m2, m3, m4, m5, m6⟩ := marks l (by omega)
    cases hv : spec_FourthBodies l c t with
    | inl u =>
      obtain ⟨z1, z2, z3, z4, z5, z6⟩ := marks0
      simp only [DT.ok, DT.val, hs, Bool.not_true, t1, t2, a1, a2, a3, hv, isL, m1, m2, m3, m4, m5, m6, len_pos, len_ne, z1, z2, z3, z4, z5, z6, one_pos, one_ne]
      exact ⟨trivial, trivial⟩
    | inr r =>
      have hr := a4 r hv
      obtain ⟨z1, z2, z3, z4, z5, z6⟩ := marks r (by omega)
      simp only [DT.ok, DT.val, hs, Bool.not_true, t1, t2, a1, a2, a3, hv, isL, rightD, m1, m2, m3, m4, m5, m6, len_pos, len_ne, z1, z2, z3, z4, z5, z6]
      exact ⟨trivial, trivial⟩
  · rw [decide_eq_false hn] at hs
    simp only [DT.ok, DT.val, hs, Bool.not_false]
    exact ⟨trivial, trivial⟩

end Go.Proofs.Ytodhhjcgjkfmpaa
