/- Plain law, part 6: bodies that come in; the law of steps. -/
import Derived.Test.YtodhhjcgjkfmpaaP5
import Derived.Test.YtodhhjcgjkfmpaaEngY
namespace Go.Proofs.Ytodhhjcgjkfmpaa
set_option linter.unusedVariables false
set_option linter.unusedSimpArgs false

theorem toBodyS_eq (l : List Body) (hl : l.length ≤ 2 ^ 40) : laws_toBodyS_need l = true ∧ laws_toBodyS l = l := by
  have ht : ∀ b : Body, laws_toBody b = b := fun b => rfl
  obtain ⟨h1, h2⟩ := loop_post (step := laws_toBodyS_loop0_step l) (fun s => ∃ j : Nat, s.1 = (j : Int) ∧ j ≤ l.length ∧ s.2.length = l.length ∧ ∀ q, q < j → s.2.getD q default = l.getD q default) (fun s => l.length - s.1.toNat) (fun r => r = (List.range l.length).map fun q => l.getD q default) (by
    rintro ⟨a, o⟩ ⟨j, hj, hjl, ho, hq⟩
    simp only at hj ho hq
    subst hj
    rcases Nat.lt_or_ge j l.length with hlt | hge
    · have hm : l.length - ((j + 1 : Nat) : Int).toNat < l.length - ((j : Nat) : Int).toNat := by
        rw [Int.toNat_natCast, Int.toNat_natCast]
        omega
      have hw := nat_next hlt (by omega)
      have hlo : j < o.length := by omega
      refine ⟨.inl (((j + 1 : Nat) : Int), List.set o j (l.getD j default)), [0], ?_, ⟨j + 1, rfl, hlt, by rw [List.length_set, ho], fun q hq' => ?_⟩, hm⟩
      · unfold laws_toBodyS_loop0_step
        simp only [DT.get, nat_dec hlt, nat_dec hlo, nat_ge, Bool.and_self, Int.toNat_natCast, decide_eq_true hlo, hw, ht]
      · rcases Nat.lt_or_ge q j with g | g
        · rw [getD_set_ne (by omega)]
          exact hq q g
        · rw [show q = j from by omega, getD_set hlo]
    · have he : j = l.length := Nat.le_antisymm hjl hge
      refine ⟨.inr o, [0], ?_, ?_⟩
      · unfold laws_toBodyS_loop0_step
        simp only [DT.get, he, nat_not]
      · exact eq_of_getD ho (fun q hq' => hq q (by omega))) (0, List.replicate l.length (⟨⟨0, 0, 0⟩, ⟨0, 0, 0⟩, 0⟩ : Body)) ⟨0, rfl, Nat.zero_le _, by simp, fun q hq => absurd hq (Nat.not_lt_zero q)⟩
  have h1 : laws_toBodyS_loop0_ends l (0, List.replicate l.length (⟨⟨0, 0, 0⟩, ⟨0, 0, 0⟩, 0⟩ : Body)) = true := h1
  have h2 : laws_toBodyS_loop0 l (0, List.replicate l.length (⟨⟨0, 0, 0⟩, ⟨0, 0, 0⟩, 0⟩ : Body)) = (List.range l.length).map fun q => l.getD q default := h2
  have he : ((List.range l.length).map fun q => l.getD q default) = l := (eq_of_getD rfl (fun j hj => rfl)).symm
  have c1 : decide ((0 : Int) ≤ ((l.length : Nat) : Int)) = true := decide_eq_true (by omega)
  have c2 : decide (((l.length : Nat) : Int) ≤ ((l.length : Nat) : Int)) = true := decide_eq_true (by omega)
  have c3 : decide (28 * ((l.length : Nat) : Int) ≤ 281474976710656) = true := decide_eq_true (by omega)
  have c4 : decide (((l.length : Nat) : Int) ≤ 9223372036854775807) = true := decide_eq_true (by omega)
  unfold laws_toBodyS_need laws_toBodyS laws_toBodyS_tree
  simp only [DT.ok, DT.val, c1, c2, c3, c4, Bool.and_self, Int.toNat_natCast, h1, h2, he]
  exact ⟨trivial, trivial⟩

theorem sz_eq (l : List Body) (hl : l.length ≤ maxLen) : decide (laws_szBodyS l 1048576 < 0) = !decide (l.length ≤ 1048576) := by
  unfold maxLen at hl
  have hw : IntKind.wrap .i64 (1048576 - ((l.length : Nat) : Int)) = 1048576 - ((l.length : Nat) : Int) := wrap_small (by omega) (by omega)
  unfold laws_szBodyS laws_szBodyS_tree
  by_cases h : l.length ≤ 1048576
  · have h0 : decide (1048576 - ((l.length : Nat) : Int) < 0) = false := decide_eq_false (by omega)
    simp only [DT.val, hw, h0]
    rw [decide_eq_true h]
    first | rfl | (rw [h0]; rfl)
  · have h0 : decide (1048576 - ((l.length : Nat) : Int) < 0) = true := decide_eq_true (by omega)
    simp only [DT.val, hw, h0]
    rw [decide_eq_false h]
    first | rfl | (rw [h0]; rfl)

theorem len_pos (n : Nat) : decide (1 + 7 * (n : Int) < 0) = false := decide_eq_false (by omega)
theorem len_ne (n : Nat) : ((1 + 7 * (n : Int)) != 1 + 7 * (n : Int)) = false := by simp

/-- What a law does with a list of bodies: it is the same as itself, and its marks are held. -/
theorem marks (l : List Body) (hl : l.length ≤ 2 ^ 40) : laws_eqBodyS_need l l = true ∧ laws_eqBodyS l l = true ∧ laws_markBodyS_need l 1 = true ∧ (laws_markBodyS l 1).1 = 1 + 7 * (l.length : Int) ∧ laws_heldBodyS_need (laws_markBodyS l 1).2 1 = true ∧ laws_heldBodyS (laws_markBodyS l 1).2 1 = 1 + 7 * (l.length : Int) := by
  obtain ⟨e1, e2⟩ := eqBodyS_self l (by omega)
  obtain ⟨k1, k2, k3, k4⟩ := mark_all l hl
  obtain ⟨d1, d2⟩ := held_all (laws_markBodyS l 1).2 (by omega) (fun j hj => k4 j (by omega))
  rw [k3] at d2
  exact ⟨e1, e2, k1, k2, d1, d2⟩

/-- .. and with none. -/
theorem marks0 : laws_eqBodyS_need [] [] = true ∧ laws_eqBodyS [] [] = true ∧ laws_markBodyS_need [] 1 = true ∧ (laws_markBodyS [] 1).1 = 1 ∧ laws_heldBodyS_need [] 1 = true ∧ laws_heldBodyS [] 1 = 1 := by
  obtain ⟨e1, e2⟩ := eqBodyS_self [] (by decide)
  obtain ⟨k1, k2, k3, k4⟩ := mark_all [] (by decide)
  obtain ⟨d1, d2⟩ := held_all [] (by decide) (fun j hj => absurd hj (Nat.not_lt_zero j))
  exact ⟨e1, e2, k1, k2, d1, d2⟩

theorem one_pos : decide ((1 : Int) < 0) = false := rfl
theorem one_ne : ((1 : Int) != 1) = false := rfl

/-- The law of steps. -/
theorem plain9 (l : List Body) (hl : l.length ≤ maxLen) (c t : Nat) : laws_FnExactStepBodies_need l c t = true ∧ laws_FnExactStepBodies l c t = true := by
  have hs := sz_eq l hl
  unfold laws_FnExactStepBodies_need laws_FnExactStepBodies laws_FnExactStepBodies_tree
  by_cases hn : l.length ≤ 1048576
  · rw [decide_eq_true hn] at hs
    obtain ⟨t1, t2⟩ := toBodyS_eq l (by omega)
    obtain ⟨a1, a2, a3, a4⟩ := step_same l c t (by omega)
    obtain ⟨m1, m2, m3, m4, m5, m6⟩ := marks l (by omega)
    cases hv : spec_StepBodies l c t with
    | inl u =>
      obtain ⟨z1, z2, z3, z4, z5, z6⟩ := marks0
      simp only [DT.ok, DT.val, hs, Bool.not_true, t1, t2, a1, a2, a3, hv, isL, m1, m2, m3, m4, m5, m6, len_pos, len_ne, z1, z2, z3, z4, z5, z6, one_pos, one_ne]
      exact ⟨trivial, trivial⟩
    | inr r =>
      have hr := okL_len (a4 r hv)
      obtain ⟨z1, z2, z3, z4, z5, z6⟩ := marks r (by omega)
      simp only [DT.ok, DT.val, hs, Bool.not_true, t1, t2, a1, a2, a3, hv, isL, rightD, m1, m2, m3, m4, m5, m6, len_pos, len_ne, z1, z2, z3, z4, z5, z6]
      exact ⟨trivial, trivial⟩
  · rw [decide_eq_false hn] at hs
    simp only [DT.ok, DT.val, hs, Bool.not_false]
    exact ⟨trivial, trivial⟩

end Go.Proofs.Ytodhhjcgjkfmpaa
