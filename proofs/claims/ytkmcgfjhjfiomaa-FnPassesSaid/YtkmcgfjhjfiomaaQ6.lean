/- The plain law of FnPasses, part 6: rises and sets take turns, the longest pass is longest. -/
import Derived.Test.YtkmcgfjhjfiomaaQ1
namespace Go.Proofs.Ytkmcgfjhjfiomaa
set_option linter.unusedVariables false
set_option linter.unusedSimpArgs false

/-! ## Lists of yes and no -/

def atB (l : List Bool) (i : Nat) : Bool := l.getD i default

/-- Turns to one of both, so far. -/
def cntT (l : List Bool) (to : Bool) : Nat → Nat
  | 0 => 0
  | 1 => 0
  | k + 2 => cntT l to (k + 1) + (if atB l (k + 1) = to ∧ atB l k ≠ to then 1 else 0)

theorem cnt_le (l : List Bool) (to : Bool) : ∀ k, cntT l to k ≤ k
  | 0 => Nat.le_refl _
  | 1 => by unfold cntT; omega
  | k + 2 => by
    have := cnt_le l to (k + 1)
    unfold cntT
    split <;> omega

/-- Rises and sets take turns. -/
theorem cnt_turns (l : List Bool) : ∀ k : Nat, (cntT l true (k + 1) : Int) - cntT l false (k + 1) = ((atB l k).toNat : Int) - ((atB l 0).toNat : Int)
  | 0 => by simp [cntT]
  | k + 1 => by
    have h := cnt_turns l k
    show ((cntT l true (k + 2) : Nat) : Int) - ((cntT l false (k + 2) : Nat) : Int) = _
    simp only [cntT]
    cases h1 : atB l (k + 1) <;> cases h2 : atB l k <;> rw [h2] at h <;> simp at h ⊢ <;> omega

theorem turns_near (l : List Bool) (k : Nat) (hk : 1 ≤ k) : cntT l true k ≤ cntT l false k + 1 ∧ cntT l false k ≤ cntT l true k + 1 := by
  obtain ⟨j, rfl⟩ : ∃ j, k = j + 1 := ⟨k - 1, by omega⟩
  have h := cnt_turns l j
  have hb : ∀ b : Bool, b.toNat ≤ 1 := by decide
  have h1 := hb (atB l j)
  have h2 := hb (atB l 0)
  constructor <;> omega

theorem turnsTo_eq (l : List Bool) (to : Bool) (h1 : 1 ≤ l.length) (hl : l.length ≤ 17) : impl_turnsTo_need l to = true ∧ ∃ r, impl_turnsTo l to = .inr r ∧ r.length = cntT l to l.length := by
  obtain ⟨e1, r, e2, e3⟩ := loop_post (step := impl_turnsTo_loop0_step (l, to)) (fun s => ∃ k : Nat, 1 ≤ k ∧ k ≤ l.length ∧ s.1 = (k : Int) ∧ s.2.length = cntT l to k) (fun s => ((l.length : Int) - s.1).toNat) (fun r => ∃ q, r = q ∧ q.length = cntT l to l.length) (by
    rintro ⟨n, acc⟩ ⟨k, hk1, hk, hn, hlen⟩
    simp only at hn hlen
    subst hn
    rcases Nat.lt_or_ge k l.length with hlt | hge
    · obtain ⟨j, rfl⟩ : ∃ j, k = j + 1 := ⟨k - 1, by omega⟩
      have hw : IntKind.wrap .i64 (((j + 1 : Nat) : Int) + 1) = ((j + 1 + 1 : Nat) : Int) := nat_next hlt (by omega)
      have hwm : IntKind.wrap .i64 (((j + 1 : Nat) : Int) - 1) = ((j : Nat) : Int) := by rw [wrap_small (by omega) (by omega)]; omega
      have hd : (decide ((0 : Int) ≤ ((j : Nat) : Int)) && decide (((j : Nat) : Int) < ((l.length : Nat) : Int))) = true := nat_in (by omega)
      have hc := cnt_le l to (j + 1)
      cases q1 : (l.getD (j + 1) default == to) with
      | true =>
        cases q2 : (l.getD j default == to) with
        | true =>
          refine ⟨.inl (((j + 1 + 1 : Nat) : Int), acc), [0], ?_, ⟨j + 2, by omega, hlt, rfl, ?_⟩, by show ((l.length : Int) - ((j + 1 + 1 : Nat) : Int)).toNat < ((l.length : Int) - ((j + 1 : Nat) : Int)).toNat; omega⟩
          · unfold impl_turnsTo_loop0_step
            simp only [nat_dec hlt, nat_ge, Bool.and_true, Int.toNat_natCast, q1, hwm, hd, q2, Bool.not_true, hw]
            simp only [DT.get]
            rw [nat_dec (show j < l.length by omega)]
            rfl
          · have q2' : atB l j = to := eq_of_beq q2
            show acc.length = cntT l to (j + 2)
            simp only [cntT, q2', ne_eq, not_true_eq_false, and_false, if_false, Nat.add_zero]
            exact hlen
        | false =>
          refine ⟨.inl (((j + 1 + 1 : Nat) : Int), acc ++ [((j + 1 : Nat) : Int)]), [177], ?_, ⟨j + 2, by omega, hlt, rfl, ?_⟩, by show ((l.length : Int) - ((j + 1 + 1 : Nat) : Int)).toNat < ((l.length : Int) - ((j + 1 : Nat) : Int)).toNat; omega⟩
          · have hroom : (decide ((acc.length + 1) * 8 ≤ 140737488355328) && decide (acc.length + 1 ≤ 9223372036854775807)) = true := by
              rw [Bool.and_eq_true]; exact ⟨decide_eq_true (by omega), decide_eq_true (by omega)⟩
            unfold impl_turnsTo_loop0_step
            simp only [nat_dec hlt, nat_ge, Bool.and_true, Int.toNat_natCast, q1, hwm, hd, q2, Bool.not_false, hw, List.length_singleton, hroom]
            simp only [DT.get]
            rw [nat_dec (show j < l.length by omega)]
            rfl
          · have q1' : atB l (j + 1) = to := eq_of_beq q1
            have q2' : atB l j ≠ to := ne_of_beq_false q2
            show (acc ++ [_]).length = cntT l to (j + 2)
            simp only [cntT]
            rw [if_pos ⟨q1', q2'⟩, List.length_append, List.length_singleton, hlen]
      | false =>
        refine ⟨.inl (((j + 1 + 1 : Nat) : Int), acc), [0], ?_, ⟨j + 2, by omega, hlt, rfl, ?_⟩, by show ((l.length : Int) - ((j + 1 + 1 : Nat) : Int)).toNat < ((l.length : Int) - ((j + 1 : Nat) : Int)).toNat; omega⟩
        · unfold impl_turnsTo_loop0_step
          simp only [nat_dec hlt, nat_ge, Bool.and_true, Int.toNat_natCast, q1, hw]
          simp only [DT.get]
        · have q1' : atB l (j + 1) ≠ to := ne_of_beq_false q1
          show acc.length = cntT l to (j + 2)
          simp only [cntT]
          rw [if_neg (fun h => q1' h.1), Nat.add_zero]
          exact hlen
    · have : k = l.length := by omega
      subst this
      refine ⟨.inr acc, [0], ?_, acc, rfl, hlen⟩
      unfold impl_turnsTo_loop0_step
      simp only [nat_not]
      simp only [DT.get]) (1, []) ⟨1, Nat.le_refl _, h1, rfl, rfl⟩
  have e1 : impl_turnsTo_loop0_ends (l, to) (1, []) = true := e1
  have e2 : impl_turnsTo_loop0 (l, to) (1, []) = r := e2
  have h64 : decide (((l.length : Nat) : Int) > 64) = false := decide_eq_false (by omega)
  unfold impl_turnsTo_need impl_turnsTo impl_turnsTo_tree
  simp only [DT.ok, DT.val, h64, e1, e2]
  exact ⟨trivial, r, rfl, e3⟩

theorem rises_eq (l : List Bool) (h1 : 1 ≤ l.length) (hl : l.length ≤ 17) : impl_RisesIn_need l = true ∧ ∃ r, impl_RisesIn l = .inr r ∧ r.length = cntT l true l.length := by
  obtain ⟨a, r, b, c⟩ := turnsTo_eq l true h1 hl
  unfold impl_RisesIn_need impl_RisesIn impl_RisesIn_tree
  simp only [DT.ok, DT.val, a, b, isL, rightD]
  exact ⟨trivial, r, rfl, c⟩
theorem sets_eq (l : List Bool) (h1 : 1 ≤ l.length) (hl : l.length ≤ 17) : impl_SetsIn_need l = true ∧ ∃ r, impl_SetsIn l = .inr r ∧ r.length = cntT l false l.length := by
  obtain ⟨a, r, b, c⟩ := turnsTo_eq l false h1 hl
  unfold impl_SetsIn_need impl_SetsIn impl_SetsIn_tree
  simp only [DT.ok, DT.val, a, b, isL, rightD]
  exact ⟨trivial, r, rfl, c⟩

/-! ## The longest pass -/

/-- How long it has been yes. -/
def stB (l : List Bool) : Nat → Nat
  | 0 => 0
  | k + 1 => if atB l k = true then stB l k + 1 else 0

theorem st_le (l : List Bool) : ∀ k, stB l k ≤ k
  | 0 => Nat.le_refl _
  | k + 1 => by have := st_le l k; unfold stB; split <;> omega
theorem st_yes (l : List Bool) : ∀ k j, k - stB l k ≤ j → j < k → atB l j = true
  | 0, _, _, h => by omega
  | k + 1, j, h1, h2 => by
    unfold stB at h1
    by_cases hk : atB l k = true
    · rw [if_pos hk] at h1
      rcases Nat.lt_or_ge j k with g | g
      · exact st_yes l k j (by omega) g
      · have : j = k := by omega
        subst this
        exact hk
    · rw [if_neg hk] at h1
      omega

def someB (l : List Bool) : Nat → Bool
  | 0 => false
  | k + 1 => someB l k || atB l k
theorem some_of (l : List Bool) : ∀ k j, j < k → atB l j = true → someB l k = true
  | 0, _, h, _ => by omega
  | k + 1, j, h, hj => by
    unfold someB
    rcases Nat.lt_or_ge j k with g | g
    · rw [some_of l k j g hj]; rfl
    · have : j = k := by omega
      subst this
      rw [hj, Bool.or_true]

/-- What the longest pass is, of the first k. -/
def LongP (l : List Bool) (k : Nat) (a b : Int) : Prop :=
  (∀ j, j ≤ k → (stB l j : Int) ≤ b) ∧ 0 ≤ b ∧ b ≤ (k : Int) ∧ (b = 0 → someB l k = false) ∧ (0 < b → someB l k = true ∧ 0 ≤ a ∧ a + b ≤ (k : Int) ∧ ∀ j : Nat, a ≤ (j : Int) → (j : Int) < a + b → atB l j = true)

theorem long_eq (l : List Bool) (hl : l.length ≤ 17) : impl_LongestPass_need l = true ∧ ∃ a b, LongP l l.length a b ∧ ((b = 0 ∧ impl_LongestPass l = (0, 0, false)) ∨ (0 < b ∧ impl_LongestPass l = (a, b, true))) := by
  obtain ⟨e1, a, b, e2, e3⟩ := loop_post (step := impl_LongestPass_loop0_step (l, ((l.length : Nat) : Int))) (fun s => ∃ k : Nat, k ≤ l.length ∧ s.2.2.2 = (k : Int) ∧ s.2.2.1 = ((k - stB l k : Nat) : Int) ∧ LongP l k s.1 s.2.1) (fun s => ((l.length : Int) - s.2.2.2).toNat) (fun r => ∃ a b, r = (a, b) ∧ LongP l l.length a b) (by
    rintro ⟨a, b, from', n⟩ ⟨k, hk, hn, hf, hL⟩
    simp only at hn hf hL
    subst hn hf
    obtain ⟨L1, L2, L3, L4, L5⟩ := hL
    have hs := st_le l k
    rcases Nat.lt_or_ge k l.length with hlt | hge
    · have hw : IntKind.wrap .i64 (((k : Nat) : Int) + 1) = ((k + 1 : Nat) : Int) := nat_next hlt (by omega)
      cases q : l.getD k default with
      | false =>
        have q' : atB l k = false := q
        have hst : stB l (k + 1) = 0 := by unfold stB; rw [q']; rfl
        refine ⟨.inl (a, b, ((k + 1 : Nat) : Int), ((k + 1 : Nat) : Int)), [], ?_, ⟨k + 1, hlt, rfl, by rw [hst, Nat.sub_zero], ?_⟩, by show ((l.length : Int) - ((k + 1 : Nat) : Int)).toNat < ((l.length : Int) - ((k : Nat) : Int)).toNat; omega⟩
        · unfold impl_LongestPass_loop0_step
          simp only [nat_dec hlt, nat_ge, Bool.and_true, Int.toNat_natCast, q, Bool.not_false, hw]
          simp only [DT.get]
        · refine ⟨fun j hj => ?_, L2, by push_cast; omega, fun hb => ?_, fun hb => ?_⟩
          · rcases Nat.lt_or_ge j (k + 1) with g | g
            · exact L1 j (by omega)
            · have : j = k + 1 := by omega
              subst this
              rw [hst]
              exact L2
          · unfold someB; rw [L4 hb, q']; rfl
          · obtain ⟨m1, m2, m3, m4⟩ := L5 hb
            refine ⟨by unfold someB; rw [m1]; rfl, m2, by push_cast; omega, m4⟩
      | true =>
        have q' : atB l k = true := q
        have hst : stB l (k + 1) = stB l k + 1 := by
          show (if atB l k = true then stB l k + 1 else 0) = _
          rw [if_pos q']
        have hsome : someB l (k + 1) = true := by unfold someB; rw [q', Bool.or_true]
        have hx : IntKind.wrap .i64 (((k + 1 : Nat) : Int) - ((k - stB l k : Nat) : Int)) = ((stB l (k + 1) : Nat) : Int) := by
          rw [hst, wrap_small (by omega) (by omega)]; omega
        have hfrom : ((k - stB l k : Nat) : Int) = ((k + 1 - stB l (k + 1) : Nat) : Int) := by rw [hst]; omega
        by_cases hgt : ((stB l (k + 1) : Nat) : Int) > b
        · refine ⟨.inl (((k - stB l k : Nat) : Int), ((stB l (k + 1) : Nat) : Int), ((k - stB l k : Nat) : Int), ((k + 1 : Nat) : Int)), [], ?_, ⟨k + 1, hlt, rfl, hfrom, ?_⟩, by show ((l.length : Int) - ((k + 1 : Nat) : Int)).toNat < ((l.length : Int) - ((k : Nat) : Int)).toNat; omega⟩
          · unfold impl_LongestPass_loop0_step
            simp only [nat_dec hlt, nat_ge, Bool.and_true, Int.toNat_natCast, q, Bool.not_true, hw, hx, decide_eq_true hgt]
            simp only [DT.get]
          · refine ⟨fun j hj => ?_, by show (0 : Int) ≤ ((stB l (k + 1) : Nat) : Int); omega, by show ((stB l (k + 1) : Nat) : Int) ≤ ((k + 1 : Nat) : Int); rw [hst]; push_cast; omega, fun hb => by have hb : ((stB l (k + 1) : Nat) : Int) = 0 := hb; rw [hst] at hb; push_cast at hb; omega, fun hb => ⟨hsome, by show (0 : Int) ≤ ((k - stB l k : Nat) : Int); omega, by show ((k - stB l k : Nat) : Int) + ((stB l (k + 1) : Nat) : Int) ≤ ((k + 1 : Nat) : Int); rw [hst]; push_cast; omega, fun j h1 h2 => ?_⟩⟩
            · rcases Nat.lt_or_ge j (k + 1) with g | g
              · have := L1 j (by omega); show ((stB l j : Nat) : Int) ≤ ((stB l (k + 1) : Nat) : Int); omega
              · have : j = k + 1 := by omega
                subst this
                exact Int.le_refl _
            · refine st_yes l (k + 1) j (by have h1 : ((k - stB l k : Nat) : Int) ≤ (j : Int) := h1; rw [hst]; omega) ?_
              have h1 : ((k - stB l k : Nat) : Int) ≤ (j : Int) := h1
              have h2 : (j : Int) < ((k - stB l k : Nat) : Int) + ((stB l (k + 1) : Nat) : Int) := h2
              rw [hst] at h2
              push_cast at h2
              omega
        · refine ⟨.inl (a, b, ((k - stB l k : Nat) : Int), ((k + 1 : Nat) : Int)), [], ?_, ⟨k + 1, hlt, rfl, hfrom, ?_⟩, by show ((l.length : Int) - ((k + 1 : Nat) : Int)).toNat < ((l.length : Int) - ((k : Nat) : Int)).toNat; omega⟩
          · unfold impl_LongestPass_loop0_step
            simp only [nat_dec hlt, nat_ge, Bool.and_true, Int.toNat_natCast, q, Bool.not_true, hw, hx, decide_eq_false hgt]
            simp only [DT.get]
          · have hb0 : 0 < b := by rw [hst] at hgt; push_cast at hgt; omega
            obtain ⟨m1, m2, m3, m4⟩ := L5 hb0
            refine ⟨fun j hj => ?_, L2, by show b ≤ ((k + 1 : Nat) : Int); push_cast; omega, fun hb => absurd hb (show ¬ b = 0 by omega), fun hb => ⟨hsome, m2, by show a + b ≤ ((k + 1 : Nat) : Int); push_cast; omega, m4⟩⟩
            rcases Nat.lt_or_ge j (k + 1) with g | g
            · exact L1 j (by omega)
            · have : j = k + 1 := by omega
              subst this
              show ((stB l (k + 1) : Nat) : Int) ≤ b
              omega
    · have : k = l.length := by omega
      subst this
      refine ⟨.inr (a, b), [], ?_, a, b, rfl, L1, L2, L3, L4, L5⟩
      unfold impl_LongestPass_loop0_step
      simp only [nat_not]
      simp only [DT.get]) (0, 0, 0, 0) ⟨0, Nat.zero_le _, rfl, rfl, fun j hj => (by
        have : j = 0 := by omega
        subst this
        exact Int.le_refl _), Int.le_refl _, Int.le_refl _, fun _ => rfl, fun h => absurd h (by decide)⟩
  have e1 : impl_LongestPass_loop0_ends (l, ((l.length : Nat) : Int)) (0, 0, 0, 0) = true := e1
  have e2 : impl_LongestPass_loop0 (l, ((l.length : Nat) : Int)) (0, 0, 0, 0) = (a, b) := e2
  have h64 : decide (((l.length : Nat) : Int) > 64) = false := decide_eq_false (by omega)
  have hb := e3.2.1
  by_cases h0 : b = 0
  · have hq : (b == 0) = true := by simp [h0]
    unfold impl_LongestPass_need impl_LongestPass impl_LongestPass_tree
    simp only [DT.ok, DT.val, h64, e1, e2, hq]
    exact ⟨trivial, a, b, e3, .inl ⟨h0, by first | rfl | trivial⟩⟩
  · have hq : (b == 0) = false := by simp [h0]
    unfold impl_LongestPass_need impl_LongestPass impl_LongestPass_tree
    simp only [DT.ok, DT.val, h64, e1, e2, hq]
    exact ⟨trivial, a, b, e3, .inr ⟨by omega, by first | rfl | trivial⟩⟩

end Go.Proofs.Ytkmcgfjhjfiomaa
