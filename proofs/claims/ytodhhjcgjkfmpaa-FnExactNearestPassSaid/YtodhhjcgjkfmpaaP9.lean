/- Plain law, part 9: nearest pairs, nearest passes. -/
import Derived.Test.YtodhhjcgjkfmpaaP8
namespace Go.Proofs.Ytodhhjcgjkfmpaa
set_option linter.unusedVariables false
set_option linter.unusedSimpArgs false

theorem near1_same (l : List Body) (i n q : Int) : (∀ s, impl_nearest_loop1 (l, i, n, q) s = spec_l02Nearest_loop1 (l, i) s) ∧ ∀ s, impl_nearest_loop1_ends (l, i, n, q) s = spec_l02Nearest_loop1_ends (l, i) s := by
  exact loop_alike (step := impl_nearest_loop1_step (l, i, n, q)) (step' := spec_l02Nearest_loop1_step (l, i)) (by
    intro s
    unfold impl_nearest_loop1_step spec_l02Nearest_loop1_step
    simp only [DT.get, (size_same _).1, (apart_same _ _).1, (apart_same _ _).2])

theorem near0_same (l : List Body) : (∀ s, impl_nearest_loop0 (l, ((l.length : Nat) : Int)) s = spec_l02Nearest_loop0 l s) ∧ ∀ s, impl_nearest_loop0_ends (l, ((l.length : Nat) : Int)) s = spec_l02Nearest_loop0_ends l s := by
  exact loop_alike (step := impl_nearest_loop0_step (l, ((l.length : Nat) : Int))) (step' := spec_l02Nearest_loop0_step l) (by
    intro s
    unfold impl_nearest_loop0_step spec_l02Nearest_loop0_step
    simp only [DT.get, (near1_same _ _ _ _).1, (near1_same _ _ _ _).2])

theorem near1_ends (l : List Body) (i : Nat) (hi : i < l.length) (hl : l.length ≤ 2 ^ 40) (a b : Int) (d : Nat) : spec_l02Nearest_loop1_ends (l, ((i : Nat) : Int)) (a, b, d, ((i + 1 : Nat) : Int)) = true ∧ ((0 ≤ a → 0 ≤ (spec_l02Nearest_loop1 (l, ((i : Nat) : Int)) (a, b, d, ((i + 1 : Nat) : Int))).1) ∧ (i + 1 < l.length → 0 ≤ (spec_l02Nearest_loop1 (l, ((i : Nat) : Int)) (a, b, d, ((i + 1 : Nat) : Int))).1) ∧ (l.length ≤ i + 1 → (spec_l02Nearest_loop1 (l, ((i : Nat) : Int)) (a, b, d, ((i + 1 : Nat) : Int))).1 = a)) := by
  refine loop_post (step := spec_l02Nearest_loop1_step (l, ((i : Nat) : Int))) (fun s => ∃ j : Nat, s.2.2.2 = j ∧ i + 1 ≤ j ∧ j ≤ l.length ∧ (0 ≤ a → 0 ≤ s.1) ∧ (i + 1 < j → 0 ≤ s.1) ∧ (j = i + 1 → s.1 = a)) (fun s => l.length - s.2.2.2.toNat) (fun r => (0 ≤ a → 0 ≤ r.1) ∧ (i + 1 < l.length → 0 ≤ r.1) ∧ (l.length ≤ i + 1 → r.1 = a)) ?_ (a, b, d, ((i + 1 : Nat) : Int)) ⟨i + 1, rfl, Nat.le_refl _, hi, id, fun h => absurd h (Nat.lt_irrefl _), fun _ => rfl⟩
  rintro ⟨a', b', d', j'⟩ ⟨j, hj, h1, h2, h3, h4, h5⟩
  simp only at hj h3 h4 h5
  subst hj
  unfold spec_l02Nearest_loop1_step
  rcases Nat.lt_or_ge j l.length with hlt | hge
  · simp only [DT.get, nat_dec hlt, nat_dec hi, nat_ge, Bool.and_self, Int.toNat_natCast, (apart_same _ _).1, nat_next hlt (by omega)]
    cases hq : decide (a' < 0) with
    | true =>
      refine ⟨_, _, rfl, ⟨j + 1, rfl, by omega, hlt, fun _ => Int.natCast_nonneg i, fun _ => Int.natCast_nonneg i, fun h => by omega⟩, ?_⟩
      simp only [Int.toNat_natCast]
      omega
    | false =>
      have ha := of_decide_eq_false hq
      cases hf : flt .f32 (spec_l02Apart (l.getD j default).At (l.getD i default).At) d' with
      | true =>
        refine ⟨_, _, rfl, ⟨j + 1, rfl, by omega, hlt, fun _ => Int.natCast_nonneg i, fun _ => Int.natCast_nonneg i, fun h => by omega⟩, ?_⟩
        simp only [Int.toNat_natCast]
        omega
      | false =>
        refine ⟨_, _, rfl, ⟨j + 1, rfl, by omega, hlt, fun _ => by show 0 ≤ a'; omega, fun _ => by show 0 ≤ a'; omega, fun h => by omega⟩, ?_⟩
        simp only [Int.toNat_natCast]
        omega
  · have hj : j = l.length := by omega
    subst hj
    simp only [DT.get, nat_not]
    exact ⟨_, _, rfl, h3, h4, fun h => h5 (by omega)⟩

theorem near0_ends (l : List Body) (hl : l.length ≤ 2 ^ 40) : spec_l02Nearest_loop0_ends l (-1, -1, 0, 0) = true ∧ ((2 ≤ l.length → 0 ≤ (spec_l02Nearest_loop0 l (-1, -1, 0, 0)).1) ∧ (l.length ≤ 1 → (spec_l02Nearest_loop0 l (-1, -1, 0, 0)).1 = -1)) := by
  refine loop_post (step := spec_l02Nearest_loop0_step l) (fun s => ∃ j : Nat, s.2.2.2 = j ∧ j ≤ l.length ∧ (1 ≤ j ∧ 2 ≤ l.length → 0 ≤ s.1) ∧ (l.length ≤ 1 → s.1 = -1)) (fun s => l.length - s.2.2.2.toNat) (fun r => (2 ≤ l.length → 0 ≤ r.1) ∧ (l.length ≤ 1 → r.1 = -1)) ?_ (-1, -1, 0, 0) ⟨0, rfl, Nat.zero_le _, fun h => by omega, fun _ => rfl⟩
  rintro ⟨a', b', d', j'⟩ ⟨j, hj, h2, h3, h4⟩
  simp only at hj h3 h4
  subst hj
  unfold spec_l02Nearest_loop0_step
  rcases Nat.lt_or_ge j l.length with hlt | hge
  · obtain ⟨e1, e2, e3, e4⟩ := near1_ends l j hlt hl a' b' d'
    simp only [DT.get, nat_dec hlt, nat_next hlt (by omega), e1]
    refine ⟨_, _, rfl, ⟨j + 1, rfl, hlt, fun h => ?_, fun h => ?_⟩, ?_⟩
    · by_cases hj : j = 0
      · exact e3 (by omega)
      · exact e2 (h3 (by omega))
    · exact (e4 (by omega)).trans (h4 h)
    · simp only [Int.toNat_natCast]
      omega
  · have hj : j = l.length := by omega
    subst hj
    simp only [DT.get, nat_not]
    exact ⟨_, _, rfl, fun h => h3 (by omega), h4⟩

/-- The least distance of a pair, when there is one. -/
noncomputable def nearP (l : List Body) : Option Nat := match (spec_l02Nearest l).2.2.2 with
  | true => some (spec_l02Nearest l).2.2.1
  | false => none

theorem nearest_spec (l : List Body) (hl : l.length ≤ 2 ^ 40) : spec_l02Nearest_need l = true ∧ (nearP l = none → (spec_l02Nearest l).2.2.2 = false) ∧ ∀ e, nearP l = some e → (spec_l02Nearest l).2.2.2 = true ∧ (spec_l02Nearest l).2.2.1 = e := by
  obtain ⟨h1, h2, h3⟩ := near0_ends l hl
  refine ⟨?_, ?_, ?_⟩
  · unfold spec_l02Nearest_need spec_l02Nearest_tree
    simp only [DT.ok, h1]
    cases decide ((spec_l02Nearest_loop0 l (-1, -1, 0, 0)).1 ≥ 0) <;> rfl
  · intro h
    unfold nearP at h
    cases hq : (spec_l02Nearest l).2.2.2 with
    | true => rw [hq] at h; cases h
    | false => rfl
  · intro e h
    unfold nearP at h
    cases hq : (spec_l02Nearest l).2.2.2 with
    | true => rw [hq] at h; cases h; exact ⟨rfl, rfl⟩
    | false => rw [hq] at h; cases h

theorem nearest_impl (l : List Body) (hok : okL l = true) : impl_NearestBodies_need l = true ∧ (nearP l = none → (impl_NearestBodies l).2.2.2 = false) ∧ ∀ e, nearP l = some e → (impl_NearestBodies l).2.2.2 = true ∧ (impl_NearestBodies l).2.2.1 = e := by
  have h16 := okL_len hok
  obtain ⟨a1, a2⟩ := AreBodies_eq l (by omega)
  obtain ⟨h1, h2, h3⟩ := near0_ends l (by omega)
  have n1 : impl_nearest_need l = true := by
    unfold impl_nearest_need impl_nearest_tree
    simp only [DT.ok, (near0_same l).2, h1]
  have n2 : impl_nearest l = spec_l02Nearest_loop0 l (-1, -1, 0, 0) := by
    unfold impl_nearest impl_nearest_tree
    simp only [DT.val, (near0_same l).1]
  by_cases hlt : l.length < 2
  · have hd : decide (((l.length : Nat) : Int) < 2) = true := decide_eq_true (by omega)
    have hm := h3 (by omega)
    have hn : nearP l = none := by
      unfold nearP spec_l02Nearest spec_l02Nearest_tree
      simp only [DT.val, hm]
      rfl
    rw [hn]
    unfold impl_NearestBodies_need impl_NearestBodies impl_NearestBodies_tree
    simp only [DT.ok, DT.val, a1, a2, hok, Bool.not_true, hd]
    exact ⟨trivial, fun _ => trivial, fun e h => by cases h⟩
  · have hd : decide (((l.length : Nat) : Int) < 2) = false := decide_eq_false (by omega)
    have hm : decide ((spec_l02Nearest_loop0 l (-1, -1, 0, 0)).1 ≥ 0) = true := decide_eq_true (h2 (by omega))
    have hs : spec_l02Nearest l = ((spec_l02Nearest_loop0 l (-1, -1, 0, 0)).1, (spec_l02Nearest_loop0 l (-1, -1, 0, 0)).2.1, (spec_l02Nearest_loop0 l (-1, -1, 0, 0)).2.2, isNum .f32 (spec_l02Nearest_loop0 l (-1, -1, 0, 0)).2.2) := by
      unfold spec_l02Nearest spec_l02Nearest_tree
      simp only [DT.val, hm, l01Finite_eq]
    unfold nearP
    rw [hs]
    unfold impl_NearestBodies_need impl_NearestBodies impl_NearestBodies_tree
    simp only [DT.ok, DT.val, a1, a2, hok, Bool.not_true, hd, n1, n2, IsFinite_need, IsFinite_eq]
    cases isNum .f32 (spec_l02Nearest_loop0 l (-1, -1, 0, 0)).2.2 with
    | true => exact ⟨rfl, (fun h => by cases h), (fun e h => by cases h; exact ⟨rfl, rfl⟩)⟩
    | false => exact ⟨rfl, (fun _ => rfl), (fun e h => by cases h)⟩

/-! ## Passes -/

/-- The better of two rounds. -/
noncomputable def upd (b : Int) (d : Nat) (k : Int) (e : Nat) : Int × Nat := match decide (k = 0) || flt .f32 e d with
  | true => (k, e)
  | false => (b, d)

noncomputable def passP (c t : Nat) : Nat → Int → Nat → Int → List Body → (Int × Nat) ⊕ (Int × Nat)
  | 0, b, d, k, l => match nearP l with
    | none => .inl (0, 0)
    | some e => .inr (upd b d k e)
  | f + 1, b, d, k, l => match nearP l with
    | none => .inl (0, 0)
    | some e => match stepP l c t with
      | .inl _ => .inl (0, 0)
      | .inr r => passP c t f (upd b d k e).1 (upd b d k e).2 (k + 1) r

theorem upd_first (b : Int) (d e : Nat) : upd b d 0 e = (0, e) := rfl

theorem upd_less {b k : Int} {d e : Nat} (hk : k ≠ 0) : upd b d k e = match flt .f32 e d with | true => (k, e) | false => (b, d) := by
  unfold upd
  rw [decide_eq_false hk, Bool.false_or]

theorem pass_spec (c t : Nat) (n : Nat) (hn : n ≤ 64) (l : List Body) (hok : okL l = true) : spec_NearestPass_loop0_ends (c, t, ((n : Nat) : Int)) (0, 0, 0, l) = true ∧ spec_NearestPass_loop0 (c, t, ((n : Nat) : Int)) (0, 0, 0, l) = passP c t n 0 0 0 l := by
  refine loop_post (step := spec_NearestPass_loop0_step (c, t, ((n : Nat) : Int))) (fun s => ∃ k : Nat, s.2.2.1 = k ∧ okL s.2.2.2 = true ∧ ((k ≤ n ∧ passP c t (n - k) s.1 s.2.1 k s.2.2.2 = passP c t n 0 0 0 l) ∨ (k = n + 1 ∧ .inr (s.1, s.2.1) = passP c t n 0 0 0 l))) (fun s => n + 1 - s.2.2.1.toNat) (fun r => r = passP c t n 0 0 0 l) ?_ (0, 0, 0, l) ⟨0, rfl, hok, .inl ⟨Nat.zero_le _, rfl⟩⟩
  rintro ⟨b, d, k', m⟩ ⟨k, hk, hm, hc⟩
  simp only at hk hm hc
  subst hk
  have h16 := okL_len hm
  rcases hc with ⟨hkn, hv⟩ | ⟨hkn, hv⟩
  · have hle : decide (((k : Nat) : Int) ≤ ((n : Nat) : Int)) = true := decide_eq_true (by omega)
    have hw : IntKind.wrap .i64 (((k : Nat) : Int) + 1) = ((k + 1 : Nat) : Int) := nat_next (n := 65) (by omega) (by omega)
    obtain ⟨p1, p2, p3⟩ := nearest_spec m (by omega)
    obtain ⟨q1, q2⟩ := step_spec m c t hm
    unfold spec_NearestPass_loop0_step
    cases he : nearP m with
    | none =>
      have hx := p2 he
      simp only [DT.get, hle, p1, hx, Bool.not_false]
      refine ⟨_, _, rfl, ?_⟩
      show _ = _
      rw [← hv]
      cases n - k <;> simp only [passP, he]
    | some e =>
      obtain ⟨hx, hy⟩ := p3 e he
      by_cases hlt : k < n
      · obtain ⟨f, hf⟩ : ∃ f, n - k = f + 1 := ⟨n - k - 1, by omega⟩
        have hf2 : n - (k + 1) = f := by omega
        have hd : decide (((k : Nat) : Int) < ((n : Nat) : Int)) = true := nat_dec hlt
        rw [hf] at hv
        simp only [passP, he] at hv
        cases hs : stepP m c t with
        | inl u =>
          rw [hs] at hv
          simp only at hv
          have key : ∃ fl, (spec_NearestPass_loop0_step (c, t, ((n : Nat) : Int)) (b, d, ((k : Nat) : Int), m)).get = some (.inr (.inl (0, 0)), fl) := by
            refine ⟨[], ?_⟩
            unfold spec_NearestPass_loop0_step
            simp only [DT.get, hle, p1, hx, hy, hd, q1, q2, hs, isL, Bool.not_true]
            cases (((k : Nat) : Int) == 0) <;> cases flt .f32 e d <;> rfl
          obtain ⟨fl, key⟩ := key
          exact ⟨_, fl, key, hv⟩
        | inr r =>
          rw [hs] at hv
          simp only at hv
          have hro := stepP_ok hs
          have key : ∃ fl, (spec_NearestPass_loop0_step (c, t, ((n : Nat) : Int)) (b, d, ((k : Nat) : Int), m)).get = some (.inl ((upd b d k e).1, (upd b d k e).2, ((k + 1 : Nat) : Int), r), fl) := by
            unfold spec_NearestPass_loop0_step
            simp only [DT.get, hle, p1, hx, hy, hd, q1, q2, hs, isL, rightD, Bool.not_true, hw]
            by_cases hk0 : k = 0
            · subst hk0
              exact ⟨_, rfl⟩
            · have hz : (((k : Nat) : Int) == 0) = false := beq_eq_false_iff_ne.2 (by omega)
              rw [hz, upd_less (k := ((k : Nat) : Int)) (by omega)]
              cases flt .f32 e d <;> exact ⟨_, rfl⟩
          obtain ⟨fl, key⟩ := key
          refine ⟨_, fl, key, ⟨k + 1, rfl, hro, .inl ⟨hlt, ?_⟩⟩, ?_⟩
          · rw [hf2]
            exact hv
          · simp only [Int.toNat_natCast]
            omega
      · have hkk : k = n := by omega
        subst hkk
        have hd : decide (((k : Nat) : Int) < ((k : Nat) : Int)) = false := nat_not
        rw [Nat.sub_self] at hv
        simp only [passP, he] at hv
        have key : ∃ fl, (spec_NearestPass_loop0_step (c, t, ((k : Nat) : Int)) (b, d, ((k : Nat) : Int), m)).get = some (.inl ((upd b d k e).1, (upd b d k e).2, ((k + 1 : Nat) : Int), m), fl) := by
          unfold spec_NearestPass_loop0_step
          simp only [DT.get, hle, p1, hx, hy, hd, Bool.not_true, hw]
          by_cases hk0 : k = 0
          · subst hk0
            exact ⟨_, rfl⟩
          · have hz : (((k : Nat) : Int) == 0) = false := beq_eq_false_iff_ne.2 (by omega)
            rw [hz, upd_less (k := ((k : Nat) : Int)) (by omega)]
            cases flt .f32 e d <;> exact ⟨_, rfl⟩
        obtain ⟨fl, key⟩ := key
        refine ⟨_, fl, key, ⟨k + 1, rfl, hm, .inr ⟨rfl, ?_⟩⟩, ?_⟩
        · exact hv
        · simp only [Int.toNat_natCast]
          omega
  · have hle : decide (((k : Nat) : Int) ≤ ((n : Nat) : Int)) = false := decide_eq_false (by omega)
    unfold spec_NearestPass_loop0_step
    simp only [DT.get, hle]
    exact ⟨_, _, rfl, hv⟩

theorem pass_impl (c t : Nat) (hc : spec_l02Least c = true) (ht : isNum .f32 t = true) (n : Nat) (hn : n ≤ 64) (h1 : 1 ≤ n) (d0 : Nat) (l : List Body) (hok : okL l = true) : impl_NearestPass_loop0_ends (c, t, ((n : Nat) : Int)) (0, d0, 1, l) = true ∧ impl_NearestPass_loop0 (c, t, ((n : Nat) : Int)) (0, d0, 1, l) = passP c t (n - 1) 0 d0 1 l := by
  refine loop_post (step := impl_NearestPass_loop0_step (c, t, ((n : Nat) : Int))) (fun s => ∃ k : Nat, s.2.2.1 = k ∧ 0 ≤ s.1 ∧ okL s.2.2.2 = true ∧ 1 ≤ k ∧ k ≤ n ∧ passP c t (n - k) s.1 s.2.1 k s.2.2.2 = passP c t (n - 1) 0 d0 1 l) (fun s => n + 1 - s.2.2.1.toNat) (fun r => r = passP c t (n - 1) 0 d0 1 l) ?_ (0, d0, 1, l) ⟨1, rfl, Int.le_refl _, hok, Nat.le_refl _, h1, rfl⟩
  rintro ⟨b, d, k', m⟩ ⟨k, hk, hb, hm, hk1, hkn, hv⟩
  simp only at hk hb hm hv
  subst hk
  have h16 := okL_len hm
  have hle : decide (((k : Nat) : Int) ≤ ((n : Nat) : Int)) = true := decide_eq_true (by omega)
  have hw : IntKind.wrap .i64 (((k : Nat) : Int) + 1) = ((k + 1 : Nat) : Int) := nat_next (n := 65) (by omega) (by omega)
  have hb0 : decide (b < 0) = false := decide_eq_false (by omega)
  obtain ⟨p1, p2, p3⟩ := nearest_impl m hm
  obtain ⟨q1, q2⟩ := step_num m c t hm hc ht
  cases he : nearP m with
  | none =>
    have hx := p2 he
    unfold impl_NearestPass_loop0_step
    simp only [DT.get, hle, p1, hx, Bool.not_false]
    refine ⟨_, _, rfl, ?_⟩
    show _ = _
    rw [← hv]
    cases n - k <;> simp only [passP, he]
  | some e =>
    obtain ⟨hx, hy⟩ := p3 e he
    have hu := upd_less (b := b) (d := d) (e := e) (k := ((k : Nat) : Int)) (by omega)
    by_cases hlt : k < n
    · obtain ⟨f, hf⟩ : ∃ f, n - k = f + 1 := ⟨n - k - 1, by omega⟩
      have hf2 : n - (k + 1) = f := by omega
      have hd : (((k : Nat) : Int) == ((n : Nat) : Int)) = false := beq_eq_false_iff_ne.2 (by omega)
      rw [hf] at hv
      simp only [passP, he] at hv
      cases hs : stepP m c t with
      | inl u =>
        rw [hs] at hv
        simp only at hv
        have key : ∃ fl, (impl_NearestPass_loop0_step (c, t, ((n : Nat) : Int)) (b, d, ((k : Nat) : Int), m)).get = some (.inr (.inl (0, 0)), fl) := by
          refine ⟨[], ?_⟩
          unfold impl_NearestPass_loop0_step
          simp only [DT.get, hle, p1, hx, hy, hd, hb0, q1, q2, hs, isL, Bool.not_true]
          cases flt .f32 e d <;> rfl
        obtain ⟨fl, key⟩ := key
        exact ⟨_, fl, key, hv⟩
      | inr r =>
        rw [hs] at hv
        simp only at hv
        have hro := stepP_ok hs
        have key : ∃ fl, (impl_NearestPass_loop0_step (c, t, ((n : Nat) : Int)) (b, d, ((k : Nat) : Int), m)).get = some (.inl ((upd b d k e).1, (upd b d k e).2, ((k + 1 : Nat) : Int), r), fl) := by
          unfold impl_NearestPass_loop0_step
          simp only [DT.get, hle, p1, hx, hy, hd, hb0, q1, q2, hs, isL, rightD, Bool.not_true, hw]
          rw [hu]
          cases flt .f32 e d <;> exact ⟨_, rfl⟩
        obtain ⟨fl, key⟩ := key
        refine ⟨_, fl, key, ⟨k + 1, rfl, ?_, hro, by omega, hlt, ?_⟩, ?_⟩
        · show 0 ≤ (upd b d k e).1
          rw [hu]
          cases flt .f32 e d
          · exact hb
          · exact Int.natCast_nonneg k
        · rw [hf2]
          exact hv
        · simp only [Int.toNat_natCast]
          omega
    · have hkk : k = n := by omega
      subst hkk
      have hd : (((k : Nat) : Int) == ((k : Nat) : Int)) = true := beq_self_eq_true _
      rw [Nat.sub_self] at hv
      simp only [passP, he] at hv
      have key : ∃ fl, (impl_NearestPass_loop0_step (c, t, ((k : Nat) : Int)) (b, d, ((k : Nat) : Int), m)).get = some (.inr (.inr (upd b d k e)), fl) := by
        unfold impl_NearestPass_loop0_step
        simp only [DT.get, hle, p1, hx, hy, hd, hb0, Bool.not_true]
        rw [hu]
        cases flt .f32 e d <;> exact ⟨_, rfl⟩
      obtain ⟨fl, key⟩ := key
      exact ⟨_, fl, key, hv⟩

/-- A pass: the program's and the reference's. -/
theorem Pass_same (l : List Body) (c t : Nat) (n : Int) (hl : l.length ≤ 2 ^ 40) : impl_NearestPass_need l c t n = true ∧ spec_NearestPass_need l c t n = true ∧ impl_NearestPass l c t n = spec_NearestPass l c t n := by
  obtain ⟨a1, a2⟩ := AreBodies_eq l (by omega)
  obtain ⟨b1, b2⟩ := can_eq l c t hl
  have hcc : impl_isCore_need c = true ∧ impl_isCore c = spec_l02Least c := aMass_same c
  have hwi : impl_within n 0 64 = spec_l00In n 0 64 := rfl
  have hst : spec_l02Steps n = spec_l00In n 0 64 := rfl
  unfold impl_NearestPass_need spec_NearestPass_need impl_NearestPass spec_NearestPass impl_NearestPass_tree spec_NearestPass_tree
  cases hok : okL l with
  | false =>
    simp only [DT.ok, DT.val, a1, a2, b1, b2, hok, Bool.not_false, Bool.false_and, Bool.and_false]
    exact ⟨trivial, trivial, trivial⟩
  | true =>
    cases hc : spec_l02Least c with
    | false =>
      simp only [DT.ok, DT.val, a1, a2, b1, b2, hok, Bool.not_true, hcc.1, hcc.2, hc, Bool.not_false, Bool.false_and, Bool.and_false]
      exact ⟨trivial, trivial, trivial⟩
    | true =>
      cases ht : isNum .f32 t with
      | false =>
        simp only [DT.ok, DT.val, a1, a2, b1, b2, hok, Bool.not_true, hcc.1, hcc.2, hc, IsFinite_need, IsFinite_eq, ht, Bool.not_false, Bool.false_and]
        exact ⟨trivial, trivial, trivial⟩
      | true =>
        cases hn : spec_l00In n 0 64 with
        | false =>
          simp only [DT.ok, DT.val, a1, a2, b1, b2, hok, Bool.not_true, hcc.1, hcc.2, hc, IsFinite_need, IsFinite_eq, ht, hwi, hst, hn, Bool.not_false, Bool.and_false, Bool.and_self]
          exact ⟨trivial, trivial, trivial⟩
        | true =>
          have hr := in_range hn
          have h16 := okL_len hok
          obtain ⟨N, rfl⟩ : ∃ N : Nat, n = N := ⟨n.toNat, by omega⟩
          have hN : N ≤ 64 := by omega
          have h0 : decide ((0 : Int) ≤ ((N : Nat) : Int)) = true := nat_ge
          obtain ⟨o1, o2⟩ := own_same l (by omega)
          obtain ⟨s1, s2⟩ := pass_spec c t N hN l hok
          obtain ⟨p1, p2, p3⟩ := nearest_impl l hok
          obtain ⟨q1, q2⟩ := step_num l c t hok hc ht
          simp only [DT.ok, DT.val, a1, a2, b1, b2, hok, Bool.not_true, hcc.1, hcc.2, hc, IsFinite_need, IsFinite_eq, ht, hwi, hst, hn, Bool.and_self, h0, p1, q1, q2, o1, o2, s1, s2]
          cases he : nearP l with
          | none =>
            have hx := p2 he
            have hv : passP c t N 0 0 0 l = .inl (0, 0) := by cases N <;> simp only [passP, he]
            simp only [hx, hv, isL, leftD, Bool.not_false]
            exact ⟨trivial, trivial, trivial⟩
          | some e =>
            obtain ⟨hx, hy⟩ := p3 e he
            by_cases hN0 : N = 0
            · subst hN0
              have hv : passP c t 0 0 0 0 l = .inr (0, e) := by simp only [passP, he]; rfl
              have hz : ((0 : Int) == ((0 : Nat) : Int)) = true := rfl
              simp only [hx, hy, hv, isL, rightD, Bool.not_true, hz]
              exact ⟨trivial, trivial, trivial⟩
            · have hz : ((0 : Int) == ((N : Nat) : Int)) = false := beq_eq_false_iff_ne.2 (by omega)
              obtain ⟨f, rfl⟩ : ∃ f, N = f + 1 := ⟨N - 1, by omega⟩
              cases hs : stepP l c t with
              | inl u =>
                have hv : passP c t (f + 1) 0 0 0 l = .inl (0, 0) := by simp only [passP, he, hs]
                simp only [hx, hy, hv, hs, isL, leftD, Bool.not_true, hz]
                exact ⟨trivial, trivial, trivial⟩
              | inr r =>
                have hro := stepP_ok hs
                have hv : passP c t (f + 1) 0 0 0 l = passP c t f 0 e 1 r := by
                  simp only [passP, he, hs, upd_first]
                  rfl
                obtain ⟨i1, i2⟩ := pass_impl c t hc ht (f + 1) hN (by omega) e r hro
                rw [Nat.add_sub_cancel] at i2
                simp only [hx, hy, hv, hs, isL, rightD, Bool.not_true, hz, i1, i2]
                cases passP c t f 0 e 1 r <;> simp only [isL, leftD, rightD] <;> exact ⟨trivial, trivial, trivial⟩

/-- The law of nearest passes. -/
theorem plain12 (l : List Body) (hl : l.length ≤ maxLen) (c t : Nat) (n : Int) : laws_FnExactNearestPass_need l c t n = true ∧ laws_FnExactNearestPass l c t n = true := by
  have hs := sz_eq l hl
  unfold laws_FnExactNearestPass_need laws_FnExactNearestPass laws_FnExactNearestPass_tree
  by_cases hn : l.length ≤ 1048576
  · rw [decide_eq_true hn] at hs
    obtain ⟨t1, t2⟩ := toBodyS_eq l (by omega)
    obtain ⟨a1, a2, a3⟩ := Pass_same l c t n (by omega)
    obtain ⟨m1, m2, m3, m4, m5, m6⟩ := marks l (by omega)
    simp only [DT.ok, DT.val, hs, Bool.not_true, t1, t2, a1, a2, a3, m1, m2, bne_self_eq_false, beq_self_eq_true, fconvOk_up, sameFloat_self]
    exact ⟨trivial, trivial⟩
  · rw [decide_eq_false hn] at hs
    simp only [DT.ok, DT.val, hs, Bool.not_false]
    exact ⟨trivial, trivial⟩

end Go.Proofs.Ytodhhjcgjkfmpaa
