/- Plain law, part 12: covers; lists of booleans. -/
import Derived.Test.YtodhhjcgjkfmpaaP11
namespace Go.Proofs.Ytodhhjcgjkfmpaa
set_option linter.unusedVariables false
set_option linter.unusedSimpArgs false

/-! ## Lists of booleans -/

theorem eqBoolS_self (l : List Bool) (hl : l.length ≤ 2 ^ 62) : laws_eqBoolS_need l l = true ∧ laws_eqBoolS l l = true := by
  obtain ⟨h1, h2⟩ := scan_loop (α := Unit) (β := Unit) (step := laws_eqBoolS_loop0_step (l, l)) l.length (fun _ => none) () (fun i hi => ⟨[], by
    unfold laws_eqBoolS_loop0_step
    simp only [DT.get, nat_dec hi, nat_ge, Bool.and_self, beq_self_eq_true, Bool.not_true, nat_next hi hl]⟩) ⟨[], by
    unfold laws_eqBoolS_loop0_step
    simp only [DT.get, nat_not]⟩
  have hf : firstOf (fun _ => (none : Option Unit)) l.length = none := by
    unfold firstOf
    rw [List.findSome?_eq_none_iff]
    exact fun _ _ => rfl
  rw [hf] at h2
  have h1 : laws_eqBoolS_loop0_ends (l, l) 0 = true := h1
  have h2 : laws_eqBoolS_loop0 (l, l) 0 = .inr () := h2
  have hne : (((l.length : Nat) : Int) != ((l.length : Nat) : Int)) = false := by simp
  unfold laws_eqBoolS_need laws_eqBoolS laws_eqBoolS_tree
  simp only [DT.ok, DT.val, hne, h1, h2, isL]
  exact ⟨trivial, trivial⟩

/-- What is marked by k. -/
def markT (k : Int) : Bool := Int.tmod k 3 == 0

theorem markBool_all (l : List Bool) (hl : l.length ≤ 2 ^ 40) : laws_markBoolS_need l 1 = true ∧ (laws_markBoolS l 1).1 = 1 + (l.length : Int) ∧ (laws_markBoolS l 1).2.length = l.length ∧ ∀ j, j < l.length → (laws_markBoolS l 1).2.getD j default = markT (1 + (j : Int)) := by
  obtain ⟨h1, h2⟩ := loop_post (step := laws_markBoolS_loop0_step ()) (fun s => ∃ i : Nat, s.2.1 = (i : Int) ∧ i ≤ l.length ∧ s.1 = 1 + (i : Int) ∧ s.2.2.length = l.length ∧ ∀ j, j < i → s.2.2.getD j default = markT (1 + (j : Int))) (fun s => l.length - s.2.1.toNat)
    (fun r => r.1 = 1 + (l.length : Int) ∧ r.2.length = l.length ∧ ∀ j, j < l.length → r.2.getD j default = markT (1 + (j : Int))) (by
    rintro ⟨k, s, m⟩ ⟨i, hs, hi, hk, hm, hj⟩
    simp only at hs hk hm hj
    subst hs hk
    rcases Nat.lt_or_ge i l.length with hlt | hge
    · have hlt' : i < m.length := by omega
      have w1 : IntKind.wrap .i64 (1 + (i : Int) + 1) = 1 + (i : Int) + 1 := wrap_small (by omega) (by omega)
      have wi : IntKind.wrap .i64 (((i : Nat) : Int) + 1) = ((i + 1 : Nat) : Int) := nat_next hlt (by omega)
      refine ⟨.inl (1 + (i : Int) + 1, ((i + 1 : Nat) : Int), List.set m i (markT (1 + (i : Int)))), [0], ?_, ⟨i + 1, rfl, hlt, ?_, ?_, fun j hj' => ?_⟩, ?_⟩
      · unfold laws_markBoolS_loop0_step markT
        simp only [DT.get, nat_dec hlt', nat_ge, Bool.and_self, Int.toNat_natCast, decide_eq_true hlt', w1, wi]
      · show 1 + (i : Int) + 1 = _
        omega
      · rw [List.length_set]; exact hm
      · rcases Nat.lt_or_ge j i with h | h
        · rw [getD_set_ne (by omega)]; exact hj j h
        · rw [show j = i from by omega, getD_set (by omega)]
      · show l.length - ((i + 1 : Nat) : Int).toNat < l.length - ((i : Nat) : Int).toNat
        rw [Int.toNat_natCast, Int.toNat_natCast]
        omega
    · have he : i = l.length := Nat.le_antisymm hi hge
      refine ⟨.inr (1 + (i : Int), m), [0], ?_, ?_, hm, fun j hj' => hj j (by omega)⟩
      · unfold laws_markBoolS_loop0_step
        simp only [DT.get, hm, he, nat_not]
      · rw [he]) (1, 0, l) ⟨0, rfl, Nat.zero_le _, rfl, rfl, fun j hj => absurd hj (Nat.not_lt_zero j)⟩
  have h1 : laws_markBoolS_loop0_ends () (1, 0, l) = true := h1
  have hv : laws_markBoolS l 1 = ((laws_markBoolS_loop0 () (1, 0, l)).1, (laws_markBoolS_loop0 () (1, 0, l)).2) := rfl
  refine ⟨?_, ?_⟩
  · unfold laws_markBoolS_need laws_markBoolS_tree
    simp only [DT.ok, h1]
  · rw [hv]
    exact h2

theorem heldBool_all (l : List Bool) (hl : l.length ≤ 2 ^ 40) (h : ∀ j, j < l.length → l.getD j default = markT (1 + (j : Int))) : laws_heldBoolS_need l 1 = true ∧ laws_heldBoolS l 1 = 1 + (l.length : Int) := by
  obtain ⟨h1, h2⟩ := loop_post (step := laws_heldBoolS_loop0_step l) (fun s => ∃ i : Nat, s.2 = (i : Int) ∧ i ≤ l.length ∧ s.1 = 1 + (i : Int)) (fun s => l.length - s.2.toNat)
    (fun r => r = .inr (1 + (l.length : Int))) (by
    rintro ⟨k, s⟩ ⟨i, hs, hi, hk⟩
    simp only at hs hk
    subst hs hk
    rcases Nat.lt_or_ge i l.length with hlt | hge
    · have hd := nat_dec hlt
      have h00 : decide ((0 : Int) ≤ ((i : Nat) : Int)) = true := decide_eq_true (by omega)
      have w1 : IntKind.wrap .i64 (1 + (i : Int) + 1) = 1 + (i : Int) + 1 := wrap_small (by omega) (by omega)
      have wi : IntKind.wrap .i64 (((i : Nat) : Int) + 1) = ((i + 1 : Nat) : Int) := nat_next hlt (by omega)
      have hg : l.getD i default = (Int.tmod (1 + (i : Int)) 3 == 0) := h i hlt
      refine ⟨.inl (1 + (i : Int) + 1, ((i + 1 : Nat) : Int)), [], ?_, ⟨i + 1, rfl, hlt, ?_⟩, ?_⟩
      · unfold laws_heldBoolS_loop0_step
        simp only [DT.get, hd, h00, Bool.and_self, Int.toNat_natCast, hg, beq_self_eq_true, Bool.not_true, w1, wi]
      · show 1 + (i : Int) + 1 = _
        omega
      · show l.length - ((i + 1 : Nat) : Int).toNat < l.length - ((i : Nat) : Int).toNat
        rw [Int.toNat_natCast, Int.toNat_natCast]
        omega
    · have he : i = l.length := Nat.le_antisymm hi hge
      refine ⟨.inr (.inr (1 + (i : Int))), [], ?_, ?_⟩
      · unfold laws_heldBoolS_loop0_step
        simp only [DT.get, he, nat_not]
      · rw [he]) (1, 0) ⟨0, rfl, Nat.zero_le _, rfl⟩
  have h1 : laws_heldBoolS_loop0_ends l (1, 0) = true := h1
  have h2 : laws_heldBoolS_loop0 l (1, 0) = .inr (1 + (l.length : Int)) := h2
  unfold laws_heldBoolS_need laws_heldBoolS laws_heldBoolS_tree
  simp only [DT.ok, DT.val, h1, h2, isL, rightD]
  exact ⟨trivial, trivial⟩

theorem bool_pos (n : Nat) : decide (1 + (n : Int) < 0) = false := decide_eq_false (by omega)
theorem bool_ne (n : Nat) : ((1 + (n : Int)) != 1 + (n : Int)) = false := by simp
theorem bone_pos : decide ((1 : Int) < 0) = false := rfl
theorem bone_ne : ((1 : Int) != 1) = false := rfl

theorem marksB (l : List Bool) (hl : l.length ≤ 2 ^ 40) : laws_eqBoolS_need l l = true ∧ laws_eqBoolS l l = true ∧ laws_markBoolS_need l 1 = true ∧ (laws_markBoolS l 1).1 = 1 + (l.length : Int) ∧ laws_heldBoolS_need (laws_markBoolS l 1).2 1 = true ∧ laws_heldBoolS (laws_markBoolS l 1).2 1 = 1 + (l.length : Int) := by
  obtain ⟨e1, e2⟩ := eqBoolS_self l (by omega)
  obtain ⟨k1, k2, k3, k4⟩ := markBool_all l hl
  obtain ⟨d1, d2⟩ := heldBool_all (laws_markBoolS l 1).2 (by omega) (fun j hj => k4 j (by omega))
  rw [k3] at d2
  exact ⟨e1, e2, k1, k2, d1, d2⟩

theorem marksB0 : laws_eqBoolS_need [] [] = true ∧ laws_eqBoolS [] [] = true ∧ laws_markBoolS_need [] 1 = true ∧ (laws_markBoolS [] 1).1 = 1 ∧ laws_heldBoolS_need [] 1 = true ∧ laws_heldBoolS [] 1 = 1 := by
  obtain ⟨e1, e2⟩ := eqBoolS_self [] (by decide)
  obtain ⟨k1, k2, k3, k4⟩ := markBool_all [] (by decide)
  obtain ⟨d1, d2⟩ := heldBool_all [] (by decide) (fun j hj => absurd hj (Nat.not_lt_zero j))
  exact ⟨e1, e2, k1, k2, d1, d2⟩

/-! ## Covers -/

/-- What a row of questions answers, if every one has an answer. -/
def collect (f : Nat → Option Bool) : Nat → Option (List Bool)
  | 0 => some []
  | n + 1 => match collect f n with
    | none => none
    | some l => match f n with
      | none => none
      | some b => some (l ++ [b])

theorem collect_len {f : Nat → Option Bool} : ∀ {n : Nat} {l : List Bool}, collect f n = some l → l.length = n
  | 0, l, h => by cases h; rfl
  | n + 1, l, h => by
    unfold collect at h
    cases hc : collect f n with
    | none => rw [hc] at h; cases h
    | some a =>
      rw [hc] at h
      simp only at h
      cases hf : f n with
      | none => rw [hf] at h; cases h
      | some b =>
        rw [hf] at h
        cases h
        rw [List.length_append, collect_len hc]
        rfl

theorem collect_some {f : Nat → Option Bool} {n : Nat} {l : List Bool} {b : Bool} (h : collect f n = some l) (hf : f n = some b) : collect f (n + 1) = some (l ++ [b]) := by
  unfold collect
  rw [h, hf]

theorem collect_no {f : Nat → Option Bool} {i : Nat} (h : f i = none) : ∀ n, i < n → collect f n = none
  | 0, hn => absurd hn (Nat.not_lt_zero _)
  | n + 1, hn => by
    unfold collect
    rcases Nat.lt_or_ge i n with hlt | hge
    · rw [collect_no h n hlt]
    · have : n = i := by omega
      subst this
      rw [h]
      cases collect f n <;> rfl

theorem collect_mono {f : Nat → Option Bool} {i : Nat} (h : collect f i = none) : ∀ n, i ≤ n → collect f n = none
  | 0, hn => by
    have : i = 0 := by omega
    subst this
    exact h
  | n + 1, hn => by
    rcases Nat.lt_or_ge n i with hlt | hge
    · have : i = n + 1 := by omega
      subst this
      exact h
    · unfold collect
      rw [collect_mono h n hge]

/-- The answer at a place of the grid. -/
noncomputable def seen (b : Ball) (v : Vec) (t a : Nat) (c R : Nat) (i : Nat) : Option Bool :=
  match isNum .f32 (riseP (placeP b (impl_gridMark ((i % c : Nat) : Int) ((i / c : Nat) : Int) c R) t) v) with
  | true => some (fge .f32 (riseP (placeP b (impl_gridMark ((i % c : Nat) : Int) ((i / c : Nat) : Int) c R) t) v) (spec_l01Sine a))
  | false => none

noncomputable def coverP (o : Option (List Bool)) : Unit ⊕ List Bool := match o with
  | none => .inl ()
  | some l => .inr l

theorem cover_spec (b : Ball) (v : Vec) (t a : Nat) (c R : Nat) (hc : 1 ≤ c ∧ c ≤ 16) (hR : 1 ≤ R ∧ R ≤ 16) :
    spec_l06Cover_loop0_ends (b.Mass, b.Radius, b.Spin, b.Start, t, ((c : Nat) : Int), ((R : Nat) : Int), spec_l01Sine a, v.X, v.Y, v.Z) (0, []) = true ∧ spec_l06Cover_loop0 (b.Mass, b.Radius, b.Spin, b.Start, t, ((c : Nat) : Int), ((R : Nat) : Int), spec_l01Sine a, v.X, v.Y, v.Z) (0, []) = coverP (collect (seen b v t a c R) (R * c)) := by
  have hRc : R * c ≤ 16 * 16 := Nat.mul_le_mul hR.2 hc.2
  have hw : IntKind.wrap .i64 (((c : Nat) : Int) * ((R : Nat) : Int)) = ((R * c : Nat) : Int) := by
    rw [← Int.natCast_mul, Nat.mul_comm c R]
    exact wrap_small (by omega) (by omega)
  refine loop_post (step := spec_l06Cover_loop0_step (b.Mass, b.Radius, b.Spin, b.Start, t, ((c : Nat) : Int), ((R : Nat) : Int), spec_l01Sine a, v.X, v.Y, v.Z)) (fun s => ∃ i : Nat, s.1 = i ∧ i ≤ R * c ∧ collect (seen b v t a c R) i = some s.2) (fun s => R * c - s.1.toNat) (fun r => r = coverP (collect (seen b v t a c R) (R * c))) ?_ (0, []) ⟨0, rfl, Nat.zero_le _, rfl⟩
  rintro ⟨k, l⟩ ⟨i, hk, hi, hl⟩
  simp only at hk hl
  subst hk
  rcases Nat.lt_or_ge i (R * c) with hlt | hge
  · have hj : i % c < c := Nat.mod_lt _ (by omega)
    have hr : i / c < R := Nat.div_lt_of_lt_mul (by rw [Nat.mul_comm]; exact hlt)
    obtain ⟨s1, s2⟩ := spot_eq (i := i) hj hc.2 hr hR.2 (by rw [Nat.mul_comm]; exact (Nat.div_add_mod i c).symm)
    obtain ⟨r1, r2⟩ := rise_spec b (impl_gridMark ((i % c : Nat) : Int) ((i / c : Nat) : Int) c R) v t
    have hlen := collect_len hl
    have w1 : IntKind.wrap .i64 (((i : Nat) : Int) + 1) = ((i + 1 : Nat) : Int) := nat_next hlt (by omega)
    unfold spec_l06Cover_loop0_step
    simp only [hw, DT.get, nat_dec hlt, s1, s2, r1, r2]
    unfold numP
    cases hn : isNum .f32 (riseP (placeP b (impl_gridMark ((i % c : Nat) : Int) ((i / c : Nat) : Int) c R) t) v) with
    | false =>
      refine ⟨_, _, rfl, ?_⟩
      have hs : seen b v t a c R i = none := by unfold seen; rw [hn]
      show _ = _
      rw [collect_no hs _ hlt]
      rfl
    | true =>
      have hs : seen b v t a c R i = some (fge .f32 (riseP (placeP b (impl_gridMark ((i % c : Nat) : Int) ((i / c : Nat) : Int) c R) t) v) (spec_l01Sine a)) := by unfold seen; rw [hn]
      have b1 : decide ((l.length + List.length [fge .f32 (riseP (placeP b (impl_gridMark ((i % c : Nat) : Int) ((i / c : Nat) : Int) c R) t) v) (spec_l01Sine a)]) * 1 ≤ 140737488355328) = true := decide_eq_true (by rw [List.length_singleton]; omega)
      have b2 : decide (l.length + List.length [fge .f32 (riseP (placeP b (impl_gridMark ((i % c : Nat) : Int) ((i / c : Nat) : Int) c R) t) v) (spec_l01Sine a)] ≤ 9223372036854775807) = true := decide_eq_true (by rw [List.length_singleton]; omega)
      simp only [Bool.not_true, b1, b2, Bool.and_self, w1]
      refine ⟨_, _, rfl, ⟨i + 1, rfl, hlt, collect_some hl hs⟩, ?_⟩
      simp only [Int.toNat_natCast]
      omega
  · have he : i = R * c := Nat.le_antisymm hi hge
    subst he
    unfold spec_l06Cover_loop0_step
    simp only [hw, DT.get, nat_not]
    refine ⟨_, _, rfl, ?_⟩
    rw [hl]
    rfl

theorem cover_row (b : Ball) (v : Vec) (t a : Nat) (c R : Nat) (hc : 1 ≤ c ∧ c ≤ 16) (hR : 1 ≤ R ∧ R ≤ 16) (hb : spec_l06Ball b = true) (hv : finV v = true) (ht : isNum .f32 t = true) (r : Nat) (hr : r < R) (q1 q2 : Int) (l : List Bool) (hl : collect (seen b v t a c R) (r * c) = some l) :
    impl_CoverOf_loop1_ends (t, a, ((c : Nat) : Int), ((R : Nat) : Int), ((r : Nat) : Int), q1, q2, ((c : Nat) : Int), b.Mass, b.Radius, b.Spin, b.Start, v.X, v.Y, v.Z) (0, l) = true ∧ impl_CoverOf_loop1 (t, a, ((c : Nat) : Int), ((R : Nat) : Int), ((r : Nat) : Int), q1, q2, ((c : Nat) : Int), b.Mass, b.Radius, b.Spin, b.Start, v.X, v.Y, v.Z) (0, l) = coverP (collect (seen b v t a c R) (r * c + c)) := by
  have hRc : r * c ≤ 16 * 16 := Nat.mul_le_mul (by omega) hc.2
  refine loop_post (step := impl_CoverOf_loop1_step (t, a, ((c : Nat) : Int), ((R : Nat) : Int), ((r : Nat) : Int), q1, q2, ((c : Nat) : Int), b.Mass, b.Radius, b.Spin, b.Start, v.X, v.Y, v.Z)) (fun s => ∃ j : Nat, s.1 = j ∧ j ≤ c ∧ collect (seen b v t a c R) (r * c + j) = some s.2) (fun s => c - s.1.toNat) (fun q => q = coverP (collect (seen b v t a c R) (r * c + c))) ?_ (0, l) ⟨0, rfl, Nat.zero_le _, hl⟩
  rintro ⟨k, l⟩ ⟨j, hk, hj, hl⟩
  simp only at hk hl
  subst hk
  rcases Nat.lt_or_ge j c with hlt | hge
  · have hd : (r * c + j) / c = r := by
      rw [Nat.mul_comm, Nat.mul_add_div (by omega), Nat.div_eq_of_lt hlt, Nat.add_zero]
    have hm : (r * c + j) % c = j := by
      rw [Nat.mul_comm, Nat.mul_add_mod, Nat.mod_eq_of_lt hlt]
    obtain ⟨r1, r2⟩ := riseAt_same b (impl_gridMark ((j : Nat) : Int) ((r : Nat) : Int) c R) v t hb (grid_mark hlt hc.2 hr hR.2) hv ht
    have hlen := collect_len hl
    have w1 : IntKind.wrap .i64 (((j : Nat) : Int) + 1) = ((j + 1 : Nat) : Int) := nat_next hlt (by omega)
    have hse : seen b v t a c R (r * c + j) = match isNum .f32 (riseP (placeP b (impl_gridMark ((j : Nat) : Int) ((r : Nat) : Int) c R) t) v) with
        | true => some (fge .f32 (riseP (placeP b (impl_gridMark ((j : Nat) : Int) ((r : Nat) : Int) c R) t) v) (spec_l01Sine a))
        | false => none := by
      unfold seen
      rw [hd, hm]
    unfold impl_CoverOf_loop1_step
    simp only [DT.get, nat_dec hlt, r1, r2, (sine_same _).1, (sine_same _).2.2]
    unfold numP
    cases hn : isNum .f32 (riseP (placeP b (impl_gridMark ((j : Nat) : Int) ((r : Nat) : Int) c R) t) v) with
    | false =>
      rw [hn] at hse
      refine ⟨_, _, rfl, ?_⟩
      show _ = _
      rw [collect_no hse _ (by omega)]
      rfl
    | true =>
      rw [hn] at hse
      have b1 : decide ((l.length + List.length [fge .f32 (riseP (placeP b (impl_gridMark ((j : Nat) : Int) ((r : Nat) : Int) c R) t) v) (spec_l01Sine a)]) * 1 ≤ 140737488355328) = true := decide_eq_true (by rw [List.length_singleton]; omega)
      have b2 : decide (l.length + List.length [fge .f32 (riseP (placeP b (impl_gridMark ((j : Nat) : Int) ((r : Nat) : Int) c R) t) v) (spec_l01Sine a)] ≤ 9223372036854775807) = true := decide_eq_true (by rw [List.length_singleton]; omega)
      simp only [Bool.not_true, b1, b2, Bool.and_self, w1]
      refine ⟨_, _, rfl, ⟨j + 1, rfl, hlt, collect_some hl hse⟩, ?_⟩
      simp only [Int.toNat_natCast]
      omega
  · have he : j = c := Nat.le_antisymm hj hge
    subst he
    unfold impl_CoverOf_loop1_step
    simp only [DT.get, nat_not]
    refine ⟨_, _, rfl, ?_⟩
    rw [hl]
    rfl

theorem cover_impl (b : Ball) (v : Vec) (t a : Nat) (c R : Nat) (hc : 1 ≤ c ∧ c ≤ 16) (hR : 1 ≤ R ∧ R ≤ 16) (hb : spec_l06Ball b = true) (hv : finV v = true) (ht : isNum .f32 t = true) :
    impl_CoverOf_loop0_ends (t, a, ((c : Nat) : Int), ((R : Nat) : Int), ((R : Nat) : Int), b.Mass, b.Radius, b.Spin, b.Start, v.X, v.Y, v.Z) (0, []) = true ∧ impl_CoverOf_loop0 (t, a, ((c : Nat) : Int), ((R : Nat) : Int), ((R : Nat) : Int), b.Mass, b.Radius, b.Spin, b.Start, v.X, v.Y, v.Z) (0, []) = coverP (collect (seen b v t a c R) (R * c)) := by
  refine loop_post (step := impl_CoverOf_loop0_step (t, a, ((c : Nat) : Int), ((R : Nat) : Int), ((R : Nat) : Int), b.Mass, b.Radius, b.Spin, b.Start, v.X, v.Y, v.Z)) (fun s => ∃ r : Nat, s.1 = r ∧ r ≤ R ∧ collect (seen b v t a c R) (r * c) = some s.2) (fun s => R - s.1.toNat) (fun q => q = coverP (collect (seen b v t a c R) (R * c))) ?_ (0, []) ⟨0, rfl, Nat.zero_le _, by rw [Nat.zero_mul]; rfl⟩
  rintro ⟨k, l⟩ ⟨r, hk, hr, hl⟩
  simp only at hk hl
  subst hk
  rcases Nat.lt_or_ge r R with hlt | hge
  · obtain ⟨c1, c2⟩ := cover_row b v t a c R hc hR hb hv ht r hlt ((R : Nat) : Int) ((r : Nat) : Int) l hl
    have w1 : IntKind.wrap .i64 (((r : Nat) : Int) + 1) = ((r + 1 : Nat) : Int) := nat_next hlt (by omega)
    have e1 : (r + 1) * c = r * c + c := Nat.succ_mul r c
    have hle : r * c + c ≤ R * c := by rw [← e1]; exact Nat.mul_le_mul_right _ hlt
    unfold impl_CoverOf_loop0_step
    simp only [DT.get, nat_dec hlt, c1, c2]
    cases hq : collect (seen b v t a c R) (r * c + c) with
    | none =>
      refine ⟨_, _, rfl, ?_⟩
      show _ = _
      rw [collect_mono hq _ hle]
      rfl
    | some m =>
      simp only [coverP, isL, rightD, w1]
      refine ⟨_, _, rfl, ⟨r + 1, rfl, hlt, ?_⟩, ?_⟩
      · rw [e1]
        exact hq
      · simp only [Int.toNat_natCast]
        omega
  · have he : r = R := Nat.le_antisymm hr hge
    subst he
    unfold impl_CoverOf_loop0_step
    simp only [DT.get, nat_not]
    refine ⟨_, _, rfl, ?_⟩
    rw [hl]
    rfl

theorem grid_range {x y : Int} (h : spec_l06Grid x y = true) : (1 ≤ x ∧ x ≤ 16) ∧ (1 ≤ y ∧ y ≤ 16) := by
  have hin : ∀ z : Int, spec_l00In z 1 16 = true → 1 ≤ z ∧ z ≤ 16 := fun z hz => by
    unfold spec_l00In spec_l00In_tree at hz
    by_cases h1 : z ≥ 1
    · by_cases h2 : z ≤ 16
      · exact ⟨h1, h2⟩
      · simp [DT.val, h1, h2] at hz
    · simp [DT.val, h1] at hz
  unfold spec_l06Grid spec_l06Grid_tree at h
  cases h1 : spec_l00In x 1 16 with
  | false => simp only [h1, DT.val] at h; cases h
  | true =>
    simp only [h1, DT.val] at h
    exact ⟨hin x h1, hin y h⟩

theorem CoverOf_same (b : Ball) (v : Vec) (t a : Nat) (x y : Int) : impl_CoverOf_need b v t a x y = true ∧ spec_CoverOf_need b v t a x y = true ∧ impl_CoverOf b v t a x y = spec_CoverOf b v t a x y ∧ ∀ r, spec_CoverOf b v t a x y = .inr r → r.length ≤ 256 := by
  obtain ⟨f1, f2⟩ := areFinite_eq [t, a] (by show 2 ≤ 2 ^ 62; decide)
  have f2 : impl_areFinite [t, a] = (isNum .f32 t && isNum .f32 a) := by rw [f2]; simp only [List.all_cons, List.all_nil, Bool.and_true]
  have hgrid : impl_isGrid x y = spec_l06Grid x y := rfl
  cases hb : spec_l06Ball b with
  | false =>
    obtain ⟨ma, ra, sp, st⟩ := b
    obtain ⟨X, Y, Z⟩ := v
    unfold impl_CoverOf_need spec_CoverOf_need impl_CoverOf spec_CoverOf impl_CoverOf_tree spec_CoverOf_tree
    simp only [(ValidBall_eq _).1, (ValidBall_eq _).2, hb, DT.ok, DT.val, Bool.not_false]
    exact ⟨trivial, trivial, trivial, fun r h => by cases h⟩
  | true =>
    cases hv : finV v with
    | false =>
      obtain ⟨ma, ra, sp, st⟩ := b
      obtain ⟨X, Y, Z⟩ := v
      unfold impl_CoverOf_need spec_CoverOf_need impl_CoverOf spec_CoverOf impl_CoverOf_tree spec_CoverOf_tree
      simp only [(ValidBall_eq _).1, (ValidBall_eq _).2, (isFiniteVector_eq _).1, (isFiniteVector_eq _).2, l01VFinite_eq, hb, hv, DT.ok, DT.val, Bool.not_false, Bool.not_true]
      exact ⟨trivial, trivial, trivial, fun r h => by cases h⟩
    | true =>
      cases ht : isNum .f32 t with
      | false =>
        obtain ⟨ma, ra, sp, st⟩ := b
        obtain ⟨X, Y, Z⟩ := v
        unfold impl_CoverOf_need spec_CoverOf_need impl_CoverOf spec_CoverOf impl_CoverOf_tree spec_CoverOf_tree
        simp only [(ValidBall_eq _).1, (ValidBall_eq _).2, (isFiniteVector_eq _).1, (isFiniteVector_eq _).2, l01VFinite_eq, l01Finite_eq, f1, f2, hb, hv, ht, DT.ok, DT.val, Bool.not_false, Bool.not_true, Bool.false_and]
        exact ⟨trivial, trivial, trivial, fun r h => by cases h⟩
      | true =>
        cases ha : isNum .f32 a with
        | false =>
          obtain ⟨ma, ra, sp, st⟩ := b
          obtain ⟨X, Y, Z⟩ := v
          unfold impl_CoverOf_need spec_CoverOf_need impl_CoverOf spec_CoverOf impl_CoverOf_tree spec_CoverOf_tree
          simp only [(ValidBall_eq _).1, (ValidBall_eq _).2, (isFiniteVector_eq _).1, (isFiniteVector_eq _).2, l01VFinite_eq, l01Finite_eq, f1, f2, hb, hv, ht, ha, DT.ok, DT.val, Bool.not_false, Bool.not_true, Bool.and_false]
          exact ⟨trivial, trivial, trivial, fun r h => by cases h⟩
        | true =>
          cases hg : spec_l06Grid x y with
          | false =>
            obtain ⟨ma, ra, sp, st⟩ := b
            obtain ⟨X, Y, Z⟩ := v
            unfold impl_CoverOf_need spec_CoverOf_need impl_CoverOf spec_CoverOf impl_CoverOf_tree spec_CoverOf_tree
            simp only [(ValidBall_eq _).1, (ValidBall_eq _).2, (isFiniteVector_eq _).1, (isFiniteVector_eq _).2, l01VFinite_eq, l01Finite_eq, f1, f2, hb, hv, ht, ha, hgrid, hg, DT.ok, DT.val, Bool.not_false, Bool.not_true, Bool.and_self]
            exact ⟨trivial, trivial, trivial, fun r h => by cases h⟩
          | true =>
            obtain ⟨hx, hy⟩ := grid_range hg
            obtain ⟨c, rfl⟩ : ∃ c : Nat, x = c := ⟨x.toNat, by omega⟩
            obtain ⟨R, rfl⟩ : ∃ R : Nat, y = R := ⟨y.toNat, by omega⟩
            obtain ⟨i1, i2⟩ := cover_impl b v t a c R (by omega) (by omega) hb hv ht
            obtain ⟨s1, s2⟩ := cover_spec b v t a c R (by omega) (by omega)
            have hlen : ∀ r, collect (seen b v t a c R) (R * c) = some r → r.length ≤ 256 := fun r hr => by
              rw [collect_len hr]
              exact Nat.mul_le_mul (m₂ := 16) (n₂ := 16) (by omega) (by omega)
            have n1 : spec_l06Cover_need b v t a c R = true := by
              unfold spec_l06Cover_need spec_l06Cover_tree
              simp only [(sine_same _).2.1, s1, DT.ok]
              cases spec_l06Cover_loop0 (b.Mass, b.Radius, b.Spin, b.Start, t, ((c : Nat) : Int), ((R : Nat) : Int), spec_l01Sine a, v.X, v.Y, v.Z) (0, []) <;> rfl
            have n2 : spec_l06Cover b v t a c R = coverP (collect (seen b v t a c R) (R * c)) := by
              unfold spec_l06Cover spec_l06Cover_tree
              simp only [s2, DT.val]
              cases collect (seen b v t a c R) (R * c) <;> rfl
            generalize collect (seen b v t a c R) (R * c) = w at *
            obtain ⟨ma, ra, sp, st⟩ := b
            obtain ⟨X, Y, Z⟩ := v
            simp only at i1 i2
            unfold impl_CoverOf_need spec_CoverOf_need impl_CoverOf spec_CoverOf impl_CoverOf_tree spec_CoverOf_tree
            simp only [(ValidBall_eq _).1, (ValidBall_eq _).2, (isFiniteVector_eq _).1, (isFiniteVector_eq _).2, l01VFinite_eq, l01Finite_eq, f1, f2, hb, hv, ht, ha, hgrid, hg, DT.ok, DT.val, Bool.not_false, Bool.not_true, Bool.and_self, i1, i2, n1, n2]
            cases w with
            | none =>
              simp only [coverP, isL]
              exact ⟨trivial, trivial, trivial, fun r h => by cases h⟩
            | some l =>
              simp only [coverP, isL, rightD]
              exact ⟨trivial, trivial, trivial, fun r h => by cases h; exact hlen l rfl⟩

/-- The law of covers. -/
theorem plain7 (b : Ball) (v : Vec) (t a : Nat) (x y : Int) : laws_FnExactCoverOf_need b v t a x y = true ∧ laws_FnExactCoverOf b v t a x y = true := by
  obtain ⟨a1, a2, a3, a4⟩ := CoverOf_same b v t a x y
  have t1 : ∀ o : Ball, laws_toBall o = o := fun o => rfl
  have t2 : ∀ o : Vec, laws_toVector o = o := fun o => rfl
  obtain ⟨m1, m2, m3, m4, m5, m6⟩ := marksB0
  unfold laws_FnExactCoverOf_need laws_FnExactCoverOf laws_FnExactCoverOf_tree
  cases hv : spec_CoverOf b v t a x y with
  | inl u =>
    simp only [DT.ok, DT.val, t1, t2, a1, a2, a3, hv, isL, m1, m2, m3, m4, m5, m6, Bool.not_true, bone_pos, bone_ne]
    exact ⟨trivial, trivial⟩
  | inr r =>
    obtain ⟨z1, z2, z3, z4, z5, z6⟩ := marksB r (by have := a4 r hv; omega)
    simp only [DT.ok, DT.val, t1, t2, a1, a2, a3, hv, isL, rightD, z1, z2, z3, z4, z5, z6, Bool.not_true, bool_pos, bool_ne]
    exact ⟨trivial, trivial⟩

theorem CoverShared_same (b : Ball) (v : Vec) (t a : Nat) (x y z : Int) : impl_CoverShared_need b v t a x y z = true ∧ spec_CoverShared_need b v t a x y z = true ∧ impl_CoverShared b v t a x y z = spec_CoverShared b v t a x y z ∧ ∀ r, spec_CoverShared b v t a x y z = .inr r → r.length ≤ 256 := by
  obtain ⟨a1, a2, a3, a4⟩ := CoverOf_same b v t a x y
  have hwi : impl_within z 1 8 = spec_l00In z 1 8 := rfl
  obtain ⟨ma, ra, sp, st⟩ := b
  obtain ⟨X, Y, Z⟩ := v
  unfold impl_CoverShared_need spec_CoverShared_need impl_CoverShared spec_CoverShared impl_CoverShared_tree spec_CoverShared_tree
  simp only [hwi, a1, a2, a3]
  cases hz : spec_l00In z 1 8 with
  | false =>
    simp only [DT.ok, DT.val, Bool.not_false]
    exact ⟨trivial, trivial, trivial, fun r h => by cases h⟩
  | true =>
    cases hv : spec_CoverOf ⟨ma, ra, sp, st⟩ ⟨X, Y, Z⟩ t a x y with
    | inl u =>
      simp only [DT.ok, DT.val, Bool.not_true, isL]
      exact ⟨trivial, trivial, trivial, fun r h => by cases h⟩
    | inr q =>
      simp only [DT.ok, DT.val, Bool.not_true, isL, rightD]
      exact ⟨trivial, trivial, trivial, fun r h => by cases h; exact a4 q hv⟩

/-- The law of covers by shares. -/
theorem plain8 (b : Ball) (v : Vec) (t a : Nat) (x y z : Int) : laws_FnExactCoverShared_need b v t a x y z = true ∧ laws_FnExactCoverShared b v t a x y z = true := by
  obtain ⟨a1, a2, a3, a4⟩ := CoverShared_same b v t a x y z
  have t1 : ∀ o : Ball, laws_toBall o = o := fun o => rfl
  have t2 : ∀ o : Vec, laws_toVector o = o := fun o => rfl
  obtain ⟨m1, m2, m3, m4, m5, m6⟩ := marksB0
  unfold laws_FnExactCoverShared_need laws_FnExactCoverShared laws_FnExactCoverShared_tree
  cases hv : spec_CoverShared b v t a x y z with
  | inl u =>
    simp only [DT.ok, DT.val, t1, t2, a1, a2, a3, hv, isL, m1, m2, m3, m4, m5, m6, Bool.not_true, bone_pos, bone_ne]
    exact ⟨trivial, trivial⟩
  | inr r =>
    obtain ⟨z1, z2, z3, z4, z5, z6⟩ := marksB r (by have := a4 r hv; omega)
    simp only [DT.ok, DT.val, t1, t2, a1, a2, a3, hv, isL, rightD, z1, z2, z3, z4, z5, z6, Bool.not_true, bool_pos, bool_ne]
    exact ⟨trivial, trivial⟩

end Go.Proofs.Ytodhhjcgjkfmpaa
