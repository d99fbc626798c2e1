/- The plain law of FnRounds, part 2: nearest bodies, the nearest pass, steps in parts. -/
import Derived.Test.YtilfdpllleninaaR1
namespace Go.Proofs.Ytilfdpllleninaa
open Ieee
set_option linter.unusedVariables false
set_option linter.unusedSimpArgs false

/-- How far two bodies are apart. -/
noncomputable def sizeP (l : List Body) (q p : Nat) : Nat := impl_SizeOfVector (impl_LessVectors (l.getD q default).At (l.getD p default).At)

/-- All distances are numbers. -/
def Apart (l : List Body) : Prop := ∀ p q, p < q → q < l.length → isNum .f32 (sizeP l q p) = true

/-- The pairs that are seen ahead of i and k. -/
def Cov (n i k p q : Nat) : Prop := p < q ∧ q < n ∧ (p < i ∨ (p = i ∧ q < k))

def Best (l : List Body) (i k : Nat) (x y : Int) (d : Nat) : Prop :=
  (x = -1 ∧ ∀ p q, ¬ Cov l.length i k p q) ∨ ∃ a b : Nat, x = (a : Int) ∧ y = (b : Int) ∧ a < b ∧ b < l.length ∧ d = sizeP l b a ∧ ∀ p q, Cov l.length i k p q → R .f32 (sizeP l b a) ≤ R .f32 (sizeP l q p)

theorem inner_loop {l : List Body} (hl : l.length ≤ 2 ^ 40) (hA : Apart l) {i : Nat} (hi : i < l.length) {x y : Int} {d : Nat} (h : Best l i (i + 1) x y d) (m : Int) :
    impl_nearest_loop1_ends (l, (i : Int), m, (i : Int)) (x, y, d, ((i + 1 : Nat) : Int)) = true ∧ ∃ x' y' d', impl_nearest_loop1 (l, (i : Int), m, (i : Int)) (x, y, d, ((i + 1 : Nat) : Int)) = (x', y', d') ∧ Best l (i + 1) (i + 2) x' y' d' := by
  obtain ⟨e1, e2⟩ := loop_post (step := impl_nearest_loop1_step (l, (i : Int), m, (i : Int))) (fun s => ∃ k : Nat, i < k ∧ k ≤ l.length ∧ s.2.2.2 = (k : Int) ∧ Best l i k s.1 s.2.1 s.2.2.1) (fun s => l.length - s.2.2.2.toNat) (fun r => Best l (i + 1) (i + 2) r.1 r.2.1 r.2.2) (by
    rintro ⟨a, b, c, k'⟩ ⟨k, hk, hkl, hk', hB⟩
    simp only at hk' hB
    subst hk'
    rcases Nat.lt_or_ge k l.length with hlt | hge
    · have hm : l.length - ((k + 1 : Nat) : Int).toNat < l.length - ((k : Nat) : Int).toNat := by
        rw [Int.toNat_natCast, Int.toNat_natCast]
        omega
      have hw := nat_next hlt (by omega)
      have hnum := hA i k hk hlt
      have es : impl_SizeOfVector (impl_LessVectors (l.getD k default).At (l.getD i default).At) = sizeP l k i := rfl
      have cov : ∀ p q, Cov l.length i (k + 1) p q → Cov l.length i k p q ∨ (p = i ∧ q = k) := by
        rintro p q ⟨c1, c2, c3⟩
        rcases c3 with c3 | ⟨c3, c4⟩
        · exact .inl ⟨c1, c2, .inl c3⟩
        · rcases Nat.lt_or_ge q k with g | g
          · exact .inl ⟨c1, c2, .inr ⟨c3, g⟩⟩
          · exact .inr ⟨c3, by omega⟩
      rcases hB with ⟨ha, hn⟩ | ⟨a', b', ha, hb, hab, hbn, hc, hle⟩
      · have d1 : decide (a < 0) = true := decide_eq_true (by omega)
        refine ⟨.inl ((i : Int), (k : Int), sizeP l k i, ((k + 1 : Nat) : Int)), [], ?_, ⟨k + 1, by omega, hlt, rfl, .inr ⟨i, k, rfl, rfl, hk, hlt, rfl, fun p q hc => ?_⟩⟩, hm⟩
        · unfold impl_nearest_loop1_step
          simp only [DT.get, nat_dec hlt, nat_dec hi, nat_ge, Bool.and_self, Int.toNat_natCast, vec_eta, Size_need, es, d1, hw]
        · rcases cov p q hc with g | ⟨rfl, rfl⟩
          · exact absurd g (hn p q)
          · exact Rat.le_refl
      · have d1 : decide (a < 0) = false := decide_eq_false (by omega)
        have hbest := hA a' b' hab hbn
        subst hc
        cases hf : flt .f32 (sizeP l k i) (sizeP l b' a') with
        | true =>
          have hf' := hf
          rw [flt_R hnum hbest, decide_eq_true_eq] at hf'
          refine ⟨.inl ((i : Int), (k : Int), sizeP l k i, ((k + 1 : Nat) : Int)), [], ?_, ⟨k + 1, by omega, hlt, rfl, .inr ⟨i, k, rfl, rfl, hk, hlt, rfl, fun p q hc => ?_⟩⟩, hm⟩
          · unfold impl_nearest_loop1_step
            simp only [DT.get, nat_dec hlt, nat_dec hi, nat_ge, Bool.and_self, Int.toNat_natCast, vec_eta, Size_need, es, d1, hf, hw]
          · rcases cov p q hc with g | ⟨rfl, rfl⟩
            · have := hle p q g
              grind
            · exact Rat.le_refl
        | false =>
          have hf' := hf
          rw [flt_R hnum hbest] at hf'
          have hf' := of_decide_eq_false hf'
          refine ⟨.inl (a, b, sizeP l b' a', ((k + 1 : Nat) : Int)), [], ?_, ⟨k + 1, by omega, hlt, rfl, .inr ⟨a', b', ha, hb, hab, hbn, rfl, fun p q hc => ?_⟩⟩, hm⟩
          · unfold impl_nearest_loop1_step
            simp only [DT.get, nat_dec hlt, nat_dec hi, nat_ge, Bool.and_self, Int.toNat_natCast, vec_eta, Size_need, es, d1, hf, hw]
          · rcases cov p q hc with g | ⟨rfl, rfl⟩
            · exact hle p q g
            · grind
    · have he : k = l.length := Nat.le_antisymm hkl hge
      subst he
      have cov : ∀ p q, Cov l.length (i + 1) (i + 2) p q → Cov l.length i l.length p q := by
        rintro p q ⟨c1, c2, c3⟩
        refine ⟨c1, c2, ?_⟩
        rcases c3 with c3 | ⟨c3, c4⟩
        · rcases Nat.lt_or_ge p i with g | g
          · exact .inl g
          · exact .inr ⟨by omega, c2⟩
        · omega
      refine ⟨.inr (a, b, c), [], ?_, ?_⟩
      · unfold impl_nearest_loop1_step
        simp only [DT.get, nat_not]
      · rcases hB with ⟨ha, hn⟩ | ⟨a', b', ha, hb, hab, hbn, hc, hle⟩
        · exact .inl ⟨ha, fun p q g => hn p q (cov p q g)⟩
        · exact .inr ⟨a', b', ha, hb, hab, hbn, hc, fun p q g => hle p q (cov p q g)⟩) (x, y, d, ((i + 1 : Nat) : Int)) ⟨i + 1, by omega, hi, rfl, h⟩
  exact ⟨e1, _, _, _, rfl, e2⟩

theorem nearest_eq {l : List Body} (hl : l.length ≤ 2 ^ 40) (h2 : 2 ≤ l.length) (hA : Apart l) : impl_nearest_need l = true ∧ ∃ a b : Nat, impl_nearest l = ((a : Int), (b : Int), sizeP l b a) ∧ a < b ∧ b < l.length ∧ ∀ p q, p < q → q < l.length → R .f32 (sizeP l b a) ≤ R .f32 (sizeP l q p) := by
  obtain ⟨e1, e2⟩ := loop_post (step := impl_nearest_loop0_step (l, ((l.length : Nat) : Int))) (fun s => ∃ i : Nat, i ≤ l.length ∧ s.2.2.2 = (i : Int) ∧ Best l i (i + 1) s.1 s.2.1 s.2.2.1) (fun s => l.length - s.2.2.2.toNat) (fun r => Best l l.length (l.length + 1) r.1 r.2.1 r.2.2) (by
    rintro ⟨a, b, c, i'⟩ ⟨i, hi, hi', hB⟩
    simp only at hi' hB
    subst hi'
    rcases Nat.lt_or_ge i l.length with hlt | hge
    · have hm : l.length - ((i + 1 : Nat) : Int).toNat < l.length - ((i : Nat) : Int).toNat := by
        rw [Int.toNat_natCast, Int.toNat_natCast]
        omega
      have hw := nat_next hlt (by omega)
      obtain ⟨n1, x', y', d', n2, n3⟩ := inner_loop hl hA hlt hB ((l.length : Nat) : Int)
      refine ⟨.inl (x', y', d', ((i + 1 : Nat) : Int)), [], ?_, ⟨i + 1, hlt, rfl, n3⟩, hm⟩
      unfold impl_nearest_loop0_step
      simp only [DT.get, nat_dec hlt, hw, n1, n2]
    · have he : i = l.length := Nat.le_antisymm hi hge
      subst he
      refine ⟨.inr (a, b, c), [], ?_, hB⟩
      unfold impl_nearest_loop0_step
      simp only [DT.get, nat_not]) (-1, -1, 0, 0) ⟨0, Nat.zero_le _, rfl, .inl ⟨rfl, fun p q ⟨c1, c2, c3⟩ => by omega⟩⟩
  have e1 : impl_nearest_loop0_ends (l, ((l.length : Nat) : Int)) (-1, -1, 0, 0) = true := e1
  have e2 : Best l l.length (l.length + 1) (impl_nearest_loop0 (l, ((l.length : Nat) : Int)) (-1, -1, 0, 0)).1 (impl_nearest_loop0 (l, ((l.length : Nat) : Int)) (-1, -1, 0, 0)).2.1 (impl_nearest_loop0 (l, ((l.length : Nat) : Int)) (-1, -1, 0, 0)).2.2 := e2
  rcases e2 with ⟨-, hn⟩ | ⟨a, b, ha, hb, hab, hbn, hc, hle⟩
  · exact absurd ⟨by omega, by omega, .inl (by omega)⟩ (hn 0 1)
  · have key : (impl_nearest_tree l).get = some ((a : Int), (b : Int), sizeP l b a) := by
      unfold impl_nearest_tree
      simp only [DT.get, e1, ha, hb, hc]
    obtain ⟨k1, k2⟩ := DT.of_get key
    exact ⟨k1, a, b, k2, hab, hbn, fun p q hp hq => hle p q ⟨hp, hq, .inl (by omega)⟩⟩

theorem NearestBodies_eq {l : List Body} (hok : okL l = true) (h2 : 2 ≤ l.length) (hA : Apart l) : impl_NearestBodies_need l = true ∧ ∃ a b : Nat, impl_NearestBodies l = ((a : Int), (b : Int), sizeP l b a, true) ∧ a < b ∧ b < l.length ∧ ∀ p q, p < q → q < l.length → R .f32 (sizeP l b a) ≤ R .f32 (sizeP l q p) := by
  have h16 := okL_len hok
  obtain ⟨n1, a, b, n2, hab, hb, hle⟩ := nearest_eq (by omega) h2 hA
  obtain ⟨a1, a2⟩ := AreBodies_eq l (by omega)
  have d : decide (((l.length : Nat) : Int) < 2) = false := decide_eq_false (by omega)
  have key : (impl_NearestBodies_tree l).get = some ((a : Int), (b : Int), sizeP l b a, true) := by
    unfold impl_NearestBodies_tree
    simp only [DT.get, a1, a2, hok, Bool.not_true, d, n1, n2, IsFinite_need, IsFinite_eq, hA a b hab hb]
  obtain ⟨k1, k2⟩ := DT.of_get key
  exact ⟨k1, a, b, k2, hab, hb, hle⟩

/-! ## The nearest pass -/

/-- The least distance of bodies. -/
noncomputable def leastD (l : List Body) : Nat := (impl_NearestBodies l).2.2.1

theorem least_num {l : List Body} (hok : okL l = true) (h2 : 2 ≤ l.length) (hA : Apart l) : impl_NearestBodies_need l = true ∧ (impl_NearestBodies l).2.2.2 = true ∧ isNum .f32 (leastD l) = true := by
  obtain ⟨n1, a, b, n2, hab, hb, -⟩ := NearestBodies_eq hok h2 hA
  unfold leastD
  rw [n2]
  exact ⟨n1, rfl, hA a b hab hb⟩

theorem pass_eq {l : List Body} {c t : Nat} (hok : okL l = true) (h2 : 2 ≤ l.length) (hc : leastB c = true) (ht : isNum .f32 t = true) (n : Nat) (h1 : 1 ≤ n) (hn : n ≤ 64)
    (H : ∀ k, k ≤ n → ∃ r, stateP l c t k = .inr r ∧ Apart r) :
    impl_NearestPass_need l c t ((n : Nat) : Int) = true ∧ ∃ at' r, impl_NearestPass l c t ((n : Nat) : Int) = (((at' : Nat) : Int), leastD r, true) ∧ at' ≤ n ∧ stateP l c t at' = .inr r ∧ Apart r ∧ R .f32 (leastD r) ≤ R .f32 (leastD l) := by
  have h16 := okL_len hok
  have hA0 : Apart l := by
    obtain ⟨r, e, h⟩ := H 0 (by omega)
    cases e
    exact h
  obtain ⟨z1, z2, z3⟩ := least_num hok h2 hA0
  obtain ⟨r1, e1, hA1⟩ := H 1 h1
  have hs1 : stepP l c t = .inr r1 := e1
  obtain ⟨s1, s2⟩ := step_impl l c t (by omega)
  rw [ht, hok, hc, hs1] at s2
  simp only [Bool.and_self] at s2
  obtain ⟨l1, l2⟩ := loop_post (step := impl_NearestPass_loop0_step (c, t, ((n : Nat) : Int))) (fun s => ∃ k at' : Nat, ∃ r : List Body, 1 ≤ k ∧ k ≤ n ∧ at' < k ∧ s.1 = (at' : Int) ∧ s.2.2.1 = (k : Int) ∧ stateP l c t k = .inr s.2.2.2 ∧ stateP l c t at' = .inr r ∧ Apart r ∧ s.2.1 = leastD r ∧ R .f32 (leastD r) ≤ R .f32 (leastD l)) (fun s => n - s.2.2.1.toNat)
    (fun q => ∃ at' : Nat, ∃ r : List Body, q = .inr (((at' : Nat) : Int), leastD r) ∧ at' ≤ n ∧ stateP l c t at' = .inr r ∧ Apart r ∧ R .f32 (leastD r) ≤ R .f32 (leastD l)) (by
    rintro ⟨a, d, k', o⟩ ⟨k, at', r, hk1, hkn, hat, ha, hk', ho, hr, hAr, hd, hle⟩
    simp only at ha hk' ho hd
    subst ha hk' hd
    obtain ⟨o1, o2⟩ := stateP_ok hok ho
    obtain ⟨r1', r2'⟩ := stateP_ok hok hr
    have hAo : Apart o := by
      obtain ⟨q, e, h⟩ := H k hkn
      rw [ho] at e
      cases e
      exact h
    obtain ⟨y1, y2, y3⟩ := least_num o1 (by omega) hAo
    obtain ⟨x1, x2, x3⟩ := least_num r1' (by omega) hAr
    have dk : decide (((k : Nat) : Int) ≤ ((n : Nat) : Int)) = true := decide_eq_true (by omega)
    have dn : decide (((at' : Nat) : Int) < 0) = false := decide_eq_false (by omega)
    have el : (impl_NearestBodies o).2.2.1 = leastD o := rfl
    have better : ∀ (A : Nat) (q : List Body), A ≤ k → stateP l c t A = .inr q → Apart q → R .f32 (leastD q) ≤ R .f32 (leastD l) → ∃ fl, (fl = [265] ∨ fl = [233] ∨ fl = []) ∧ True := fun _ _ _ _ _ _ => ⟨[], .inr (.inr rfl), trivial⟩
    by_cases hkk : k = n
    · subst hkk
      have be : (((k : Nat) : Int) == ((k : Nat) : Int)) = true := by simp
      cases hf : flt .f32 (leastD o) (leastD r) with
      | true =>
        have hf' := hf
        rw [flt_R y3 x3, decide_eq_true_eq] at hf'
        refine ⟨.inr (.inr (((k : Nat) : Int), leastD o)), [], ?_, k, o, rfl, Nat.le_refl _, ho, hAo, by grind⟩
        unfold impl_NearestPass_loop0_step
        simp only [DT.get, dk, y1, y2, Bool.not_true, dn, el, hf, be]
      | false =>
        refine ⟨.inr (.inr (((at' : Nat) : Int), leastD r)), [], ?_, at', r, rfl, by omega, hr, hAr, hle⟩
        unfold impl_NearestPass_loop0_step
        simp only [DT.get, dk, y1, y2, Bool.not_true, dn, el, hf, be]
    · have be : (((k : Nat) : Int) == ((n : Nat) : Int)) = false := by rw [beq_eq_false_iff_ne]; omega
      have hm : n - ((k + 1 : Nat) : Int).toNat < n - ((k : Nat) : Int).toNat := by
        rw [Int.toNat_natCast, Int.toNat_natCast]
        omega
      have hw : IntKind.wrap .i64 (((k : Nat) : Int) + 1) = ((k + 1 : Nat) : Int) := nat_next (show k < n by omega) (by omega)
      obtain ⟨w, ew, hAw⟩ := H (k + 1) (by omega)
      have hsw : stepP o c t = .inr w := by
        have : (match stateP l c t k with | .inl _ => (.inl () : Unit ⊕ List Body) | .inr r => stepP r c t) = .inr w := ew
        rw [ho] at this
        exact this
      obtain ⟨t1, t2⟩ := step_impl o c t (by omega)
      rw [ht, o1, hc, hsw] at t2
      simp only [Bool.and_self] at t2
      cases hf : flt .f32 (leastD o) (leastD r) with
      | true =>
        have hf' := hf
        rw [flt_R y3 x3, decide_eq_true_eq] at hf'
        refine ⟨.inl (((k : Nat) : Int), leastD o, ((k + 1 : Nat) : Int), w), [265], ?_, ⟨k + 1, k, o, by omega, by omega, by omega, rfl, rfl, ew, ho, hAo, rfl, by grind⟩, hm⟩
        unfold impl_NearestPass_loop0_step
        simp only [DT.get, dk, y1, y2, Bool.not_true, dn, el, hf, be, t1, t2, isL, rightD, hw]
      | false =>
        refine ⟨.inl (((at' : Nat) : Int), leastD r, ((k + 1 : Nat) : Int), w), [233], ?_, ⟨k + 1, at', r, by omega, by omega, by omega, rfl, rfl, ew, hr, hAr, rfl, hle⟩, hm⟩
        unfold impl_NearestPass_loop0_step
        simp only [DT.get, dk, y1, y2, Bool.not_true, dn, el, hf, be, t1, t2, isL, rightD, hw]) (0, leastD l, 1, r1) ⟨1, 0, l, by omega, h1, by omega, rfl, rfl, e1, rfl, hA0, rfl, Rat.le_refl⟩
  have l1 : impl_NearestPass_loop0_ends (c, t, ((n : Nat) : Int)) (0, leastD l, 1, r1) = true := l1
  obtain ⟨at', r, l2, hat, hr, hAr, hle⟩ := l2
  have l2 : impl_NearestPass_loop0 (c, t, ((n : Nat) : Int)) (0, leastD l, 1, r1) = .inr (((at' : Nat) : Int), leastD r) := l2
  obtain ⟨a1, a2⟩ := AreBodies_eq l (by omega)
  have hcc := isCore_eq c
  have hwi : impl_within ((n : Nat) : Int) 0 64 = true := by
    unfold impl_within impl_within_tree
    rw [decide_eq_true (show (0 : Int) ≤ ((n : Nat) : Int) by omega), decide_eq_true (show ((n : Nat) : Int) ≤ 64 by omega)]
    rfl
  have b0 : ((0 : Int) == ((n : Nat) : Int)) = false := by rw [beq_eq_false_iff_ne]; omega
  have el : (impl_NearestBodies l).2.2.1 = leastD l := rfl
  have key : (impl_NearestPass_tree l c t ((n : Nat) : Int)).get = some (((at' : Nat) : Int), leastD r, true) := by
    unfold impl_NearestPass_tree
    simp only [DT.get, a1, a2, hok, hcc.1, hcc.2, hc, IsFinite_need, IsFinite_eq, ht, hwi, Bool.not_true, nat_ge, z1, z2, el, b0, s1, s2, isL, rightD, l1, l2]
  obtain ⟨k1, k2⟩ := DT.of_get key
  exact ⟨k1, at', r, k2, hat, hr, hAr, hle⟩

/-! ## Steps in parts -/

def isP (m : Nat) : Prop := m = 1 ∨ m = 2 ∨ m = 4 ∨ m = 8 ∨ m = 16 ∨ m = 32

theorem near_eq {a b : List Body} {x : Nat} (ha : a.length ≤ 2 ^ 40) (hab : b.length = a.length) : impl_areNear_need a b x = true ∧ (impl_areNear a b x = true → ∀ i, i < a.length → fgt .f32 (impl_SizeOfVector (impl_LessVectors (a.getD i default).At (b.getD i default).At)) x = false) := by
  obtain ⟨h1, h2⟩ := scan_loop (α := Unit) (β := Unit) (step := impl_areNear_loop0_step (a, b, x, ((a.length : Nat) : Int))) a.length (fun i => bif fgt .f32 (impl_SizeOfVector (impl_LessVectors (a.getD i default).At (b.getD i default).At)) x then some () else none) () (fun i hi => by
    refine ⟨[], ?_⟩
    unfold impl_areNear_loop0_step
    have hb : i < b.length := by omega
    simp only [DT.get, nat_dec hi, nat_dec hb, nat_ge, Bool.and_self, Int.toNat_natCast, vec_eta, Size_need, nat_next hi (by omega)]
    cases fgt .f32 (impl_SizeOfVector (impl_LessVectors (a.getD i default).At (b.getD i default).At)) x <;> rfl) ⟨[], by
    unfold impl_areNear_loop0_step
    simp only [DT.get, nat_not]⟩
  have h1 : impl_areNear_loop0_ends (a, b, x, ((a.length : Nat) : Int)) 0 = true := h1
  have h2 : impl_areNear_loop0 (a, b, x, ((a.length : Nat) : Int)) 0 = _ := h2
  cases hf : firstOf (fun i => bif fgt .f32 (impl_SizeOfVector (impl_LessVectors (a.getD i default).At (b.getD i default).At)) x then some () else none) a.length with
  | some u =>
    rw [hf] at h2
    have key : (impl_areNear_tree a b x).get = some false := by
      unfold impl_areNear_tree
      simp only [DT.get, h1, h2, isL]
    obtain ⟨k1, k2⟩ := DT.of_get key
    have k2 : impl_areNear a b x = false := k2
    exact ⟨k1, fun h => by rw [k2] at h; cases h⟩
  | none =>
    rw [hf] at h2
    have key : (impl_areNear_tree a b x).get = some true := by
      unfold impl_areNear_tree
      simp only [DT.get, h1, h2, isL]
    obtain ⟨k1, k2⟩ := DT.of_get key
    refine ⟨k1, fun _ i hi => ?_⟩
    unfold firstOf at hf
    rw [List.findSome?_eq_none_iff] at hf
    have := hf i (List.mem_range.2 hi)
    cases hg : fgt .f32 (impl_SizeOfVector (impl_LessVectors (a.getD i default).At (b.getD i default).At)) x with
    | false => rfl
    | true => rw [hg] at this; cases this

theorem parts_num : ∀ m, isP m → isNum .f32 (fdiv .f32 1056964608 (fofInt .f32 (m : Int))) = true := by
  rintro m (rfl | rfl | rfl | rfl | rfl | rfl) <;> decide +kernel

/-- What steps in parts answer: nothing, or parts that are near. -/
theorem halved_eq {l : List Body} {c x : Nat} (hok : okL l = true) (hc : leastB c = true) (hx : isNum .f32 x = true) (hx0 : flt .f32 x 0 = false) :
    impl_HalvedBodies_need l c 1056964608 x = true ∧ ((∃ z, impl_HalvedBodies l c 1056964608 x = .inl z) ∨ ∃ m a b, isP m ∧ m ≤ 16 ∧ impl_HalvedBodies l c 1056964608 x = .inr (b, ((m : Nat) : Int)) ∧ stateP l c (fdiv .f32 1056964608 (fofInt .f32 (m : Int))) m = .inr a ∧ b.length = l.length ∧ a.length = l.length ∧
      ∀ i, i < l.length → fgt .f32 (impl_SizeOfVector (impl_LessVectors (a.getD i default).At (b.getD i default).At)) x = false) := by
  have h16 := okL_len hok
  obtain ⟨l1, l2⟩ := loop_post (step := impl_HalvedBodies_loop0_step (l, c, 1056964608, x)) (fun s => ∃ m : Nat, s = (m : Int) ∧ isP m) (fun s => 64 - s.toNat) (fun q => q = .inr () ∨ ∃ m a b, q = .inl (((m : Nat) : Int), b) ∧ isP m ∧ m ≤ 16 ∧ stateP l c (fdiv .f32 1056964608 (fofInt .f32 (m : Int))) m = .inr a ∧ b.length = l.length ∧ a.length = l.length ∧
      ∀ i, i < l.length → fgt .f32 (impl_SizeOfVector (impl_LessVectors (a.getD i default).At (b.getD i default).At)) x = false) (by
    rintro s ⟨m, rfl, hm⟩
    by_cases hm32 : m = 32
    · subst hm32
      refine ⟨.inr (.inr ()), [], ?_, .inl rfl⟩
      unfold impl_HalvedBodies_loop0_step
      have d : decide (((32 : Nat) : Int) < 32) = false := by decide
      simp only [DT.get, d]
    · have hm16 : m ≤ 16 := by rcases hm with rfl | rfl | rfl | rfl | rfl | rfl <;> omega
      have d : decide (((m : Nat) : Int) < 32) = true := decide_eq_true (by omega)
      have h2 : isP (2 * m) := by rcases hm with rfl | rfl | rfl | rfl | rfl | rfl <;> simp [isP] at *
      have w1 : IntKind.wrap .i64 (2 * ((m : Nat) : Int)) = ((2 * m : Nat) : Int) := by rw [wrap_small (by omega) (by omega)]; push_cast; rfl
      have w2 : IntKind.wrap .i64 (((m : Nat) : Int) * 2) = ((2 * m : Nat) : Int) := by rw [wrap_small (by omega) (by omega)]; push_cast; omega
      have hpos : 1 ≤ m := by rcases hm with rfl | rfl | rfl | rfl | rfl | rfl <;> omega
      have hμ : 64 - ((2 * m : Nat) : Int).toNat < 64 - ((m : Nat) : Int).toNat := by
        rw [Int.toNat_natCast, Int.toNat_natCast]
        omega
      obtain ⟨r1, r2⟩ := run_eq l c (fdiv .f32 1056964608 (fofInt .f32 ((m : Nat) : Int))) m (by omega) hok hc (parts_num m hm)
      obtain ⟨q1, q2⟩ := run_eq l c (fdiv .f32 1056964608 (fofInt .f32 ((2 * m : Nat) : Int))) (2 * m) (by omega) hok hc (parts_num (2 * m) h2)
      have next : ∃ fl, (impl_HalvedBodies_loop0_step (l, c, 1056964608, x) ((m : Nat) : Int)).get = some (.inl ((2 * m : Nat) : Int), fl) → True := ⟨[], fun _ => trivial⟩
      cases ha : stateP l c (fdiv .f32 1056964608 (fofInt .f32 ((m : Nat) : Int))) m with
      | inl u =>
        rw [ha] at r2
        refine ⟨.inl ((2 * m : Nat) : Int), [], ?_, ⟨2 * m, rfl, h2⟩, hμ⟩
        unfold impl_HalvedBodies_loop0_step
        cases hb : stateP l c (fdiv .f32 1056964608 (fofInt .f32 ((2 * m : Nat) : Int))) (2 * m) with
        | inl u' =>
          rw [hb] at q2
          simp only [DT.get, d, r1, r2, isL, w1, w2, q1, q2]
        | inr b =>
          rw [hb] at q2
          simp only [DT.get, d, r1, r2, isL, w1, w2, q1, q2]
      | inr a =>
        rw [ha] at r2
        obtain ⟨a1, a2⟩ := stateP_ok hok ha
        cases hb : stateP l c (fdiv .f32 1056964608 (fofInt .f32 ((2 * m : Nat) : Int))) (2 * m) with
        | inl u' =>
          rw [hb] at q2
          refine ⟨.inl ((2 * m : Nat) : Int), [], ?_, ⟨2 * m, rfl, h2⟩, hμ⟩
          unfold impl_HalvedBodies_loop0_step
          simp only [DT.get, d, r1, r2, isL, w1, w2, q1, q2]
        | inr b =>
          rw [hb] at q2
          obtain ⟨b1, b2⟩ := stateP_ok hok hb
          obtain ⟨n1, n2⟩ := near_eq (a := a) (b := b) (x := x) (by omega) (by omega)
          cases hn : impl_areNear a b x with
          | true =>
            refine ⟨.inr (.inl (((m : Nat) : Int), b)), [192], ?_, .inr ⟨m, a, b, rfl, hm, hm16, ha, b2, a2, fun i hi => n2 hn i (by omega)⟩⟩
            unfold impl_HalvedBodies_loop0_step
            simp only [DT.get, d, r1, r2, isL, rightD, w1, w2, q1, q2, n1, hn]
          | false =>
            refine ⟨.inl ((2 * m : Nat) : Int), [], ?_, ⟨2 * m, rfl, h2⟩, hμ⟩
            unfold impl_HalvedBodies_loop0_step
            simp only [DT.get, d, r1, r2, isL, rightD, w1, w2, q1, q2, n1, hn]) 1 ⟨1, rfl, .inl rfl⟩
  have l1 : impl_HalvedBodies_loop0_ends (l, c, 1056964608, x) 1 = true := l1
  have l2 : impl_HalvedBodies_loop0 (l, c, 1056964608, x) 1 = .inr () ∨ ∃ m a b, impl_HalvedBodies_loop0 (l, c, 1056964608, x) 1 = .inl (((m : Nat) : Int), b) ∧ isP m ∧ m ≤ 16 ∧ stateP l c (fdiv .f32 1056964608 (fofInt .f32 (m : Int))) m = .inr a ∧ b.length = l.length ∧ a.length = l.length ∧
      ∀ i, i < l.length → fgt .f32 (impl_SizeOfVector (impl_LessVectors (a.getD i default).At (b.getD i default).At)) x = false := l2
  obtain ⟨a1, a2⟩ := AreBodies_eq l (by omega)
  have hcc := isCore_eq c
  obtain ⟨f1, f2⟩ := areFinite_eq [1056964608, x] (by show 2 ≤ 2 ^ 62; decide)
  have k5 : isNum .f32 1056964608 = true := by decide +kernel
  simp only [List.all_cons, List.all_nil, k5, hx, Bool.and_true] at f2
  rcases l2 with l2 | ⟨m, a, b, l2, hm, hm16, ha, hbl, hal, hn⟩
  · have key : (impl_HalvedBodies_tree l c 1056964608 x).get = some (.inl 0) := by
      unfold impl_HalvedBodies_tree
      simp only [DT.get, a1, a2, hok, hcc.1, hcc.2, hc, f1, f2, hx0, Bool.not_true, l1, l2, isL]
    obtain ⟨k1, k2⟩ := DT.of_get key
    exact ⟨k1, .inl ⟨0, k2⟩⟩
  · have key : (impl_HalvedBodies_tree l c 1056964608 x).get = some (.inr (b, ((m : Nat) : Int))) := by
      unfold impl_HalvedBodies_tree
      simp only [DT.get, a1, a2, hok, hcc.1, hcc.2, hc, f1, f2, hx0, Bool.not_true, l1, l2, isL, leftD]
    obtain ⟨k1, k2⟩ := DT.of_get key
    exact ⟨k1, .inr ⟨m, a, b, hm, hm16, k2, ha, hbl, hal, hn⟩⟩

end Go.Proofs.Ytilfdpllleninaa
