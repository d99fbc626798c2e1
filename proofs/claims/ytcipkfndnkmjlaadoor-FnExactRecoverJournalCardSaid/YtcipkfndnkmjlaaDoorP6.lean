/- Plain law of RecoverJournal, part 4: marks of texts; the law. -/
import Derived.Test.YtcipkfndnkmjlaaDoorP5
namespace Go.Proofs.YtcipkfndnkmjlaaDoor
set_option linter.unusedVariables false
set_option linter.unusedSimpArgs false

theorem markText_need (k : Int) (h0 : 0 < k) (h1 : k ≤ 2 ^ 52) : laws_markText_need k = true := by
  have h : loopEnds (laws_markText_loop0_step ()) (k, []) = true ∧ (fun r : List UInt8 => (r.length : Int) ≤ k) (loopVal (laws_markText_loop0_step ()) (k, [])) := by
    refine loop_post (step := laws_markText_loop0_step ()) (fun s => 0 ≤ s.1 ∧ s.1 + (s.2.length : Int) ≤ k) (fun s => s.1.toNat) (fun r => (r.length : Int) ≤ k) ?_ (k, []) ⟨by show 0 ≤ k; omega, by show k + ((0 : Nat) : Int) ≤ k; omega⟩
    rintro ⟨n, t⟩ ⟨a0, a1⟩
    simp only at a0 a1
    by_cases hn : n = 0
    · subst hn
      exact ⟨.inr t, [], rfl, by show (t.length : Int) ≤ k; omega⟩
    · have e1 : decide (n > 0) = true := decide_eq_true (by omega)
      have e2 : Int.tdiv n 10 = n / 10 := Int.tdiv_eq_ediv_of_nonneg a0
      have e3 : IntKind.wrap .i64 (n / 10) = n / 10 := wrap_small (by omega) (by omega)
      have e4 : ∀ b : Int, (strOf [b]).length = 1 := fun b => rfl
      have e5 : decide (1 + t.length ≤ 9223372036854775807) = true := decide_eq_true (by omega)
      refine ⟨.inl (n / 10, strOf [IntKind.wrap .u8 (IntKind.wrap .i64 (48 + Int.tmod n 10))] ++ t), [], ?_, ⟨?_, ?_⟩, ?_⟩
      · unfold laws_markText_loop0_step
        simp only [DT.get, e1, e2, e3, e4, e5]
      · show 0 ≤ n / 10
        omega
      · show n / 10 + ((strOf [_] ++ t).length : Int) ≤ k
        rw [List.length_append, e4]
        omega
      · show (n / 10).toNat < n.toNat
        omega
  have h2 : laws_markText_loop0_ends () (k, []) = true := h.1
  have h3 : ((laws_markText_loop0 () (k, [])).length : Int) ≤ k := h.2
  have e1 : decide (k ≤ 0) = false := decide_eq_false (by omega)
  have e2 : decide (List.length [109] + List.length (laws_markText_loop0 () (k, [])) ≤ 9223372036854775807) = true := decide_eq_true (by show 1 + _ ≤ _; omega)
  unfold laws_markText_need laws_markText_tree
  simp only [DT.ok, e1, h2, e2]


theorem getD_set {α : Type} {l : List α} {i : Nat} {x d : α} (h : i < l.length) : List.getD (List.set l i x) i d = x := by
  rw [List.getD_eq_getElem?_getD, List.getElem?_set_self h, Option.getD_some]
theorem getD_set_ne {α : Type} {l : List α} {i j : Nat} {x d : α} (h : i ≠ j) : List.getD (List.set l i x) j d = List.getD l j d := by
  rw [List.getD_eq_getElem?_getD, List.getD_eq_getElem?_getD, List.getElem?_set_ne h]

theorem eqS_self (l : List (List UInt8)) (hl : l.length ≤ 2 ^ 62) : laws_eqStringS_need l l = true ∧ laws_eqStringS l l = true := by
  obtain ⟨h1, h2⟩ := scan_loop (α := Unit) (β := Unit) (step := laws_eqStringS_loop0_step (l, l)) l.length (fun _ => none) () (fun i hi => ⟨[], by
    unfold laws_eqStringS_loop0_step
    simp only [DT.get, nat_dec hi, nat_ge, Bool.and_self, beq_self_eq_true, Bool.not_true, nat_next hi hl]⟩) ⟨[], by
    unfold laws_eqStringS_loop0_step
    simp only [DT.get, nat_not]⟩
  have hf : firstOf (fun _ => (none : Option Unit)) l.length = none := by
    unfold firstOf
    rw [List.findSome?_eq_none_iff]
    exact fun _ _ => rfl
  rw [hf] at h2
  have h1 : laws_eqStringS_loop0_ends (l, l) 0 = true := h1
  have h2 : laws_eqStringS_loop0 (l, l) 0 = .inr () := h2
  have hne : (((l.length : Nat) : Int) != ((l.length : Nat) : Int)) = false := by simp
  unfold laws_eqStringS_need laws_eqStringS laws_eqStringS_tree
  simp only [DT.ok, DT.val, hne, h1, h2, isL]
  exact ⟨trivial, trivial⟩

theorem markS_all (l : List (List UInt8)) (hl : l.length ≤ 2 ^ 41) : laws_markStringS_need l 1 = true ∧ (laws_markStringS l 1).1 = 1 + (l.length : Int) ∧ (laws_markStringS l 1).2.length = l.length ∧ ∀ j, j < l.length → (laws_markStringS l 1).2.getD j default = laws_markText (1 + (j : Int)) := by
  obtain ⟨h1, h2⟩ := loop_post (step := laws_markStringS_loop0_step ()) (fun s => ∃ i : Nat, s.2.1 = (i : Int) ∧ i ≤ l.length ∧ s.1 = 1 + (i : Int) ∧ s.2.2.length = l.length ∧ ∀ j, j < i → s.2.2.getD j default = laws_markText (1 + (j : Int))) (fun s => l.length - s.2.1.toNat)
    (fun r => r.1 = 1 + (l.length : Int) ∧ r.2.length = l.length ∧ ∀ j, j < l.length → r.2.getD j default = laws_markText (1 + (j : Int))) (by
    rintro ⟨k, s, m⟩ ⟨i, hs, hi, hk, hm, hj⟩
    simp only at hs hk hm hj
    subst hs hk
    rcases Nat.lt_or_ge i l.length with hlt | hge
    · have hlt' : i < m.length := by omega
      have e2 : decide (Int.toNat ((i : Nat) : Int) < m.length) = true := decide_eq_true (by omega)
      have w1 : IntKind.wrap .i64 (1 + (i : Int) + 1) = 1 + ((i + 1 : Nat) : Int) := by rw [wrap_small (by omega) (by omega)]; omega
      have w2 : IntKind.wrap .i64 ((i : Int) + 1) = ((i + 1 : Nat) : Int) := nat_next hlt (by omega)
      refine ⟨.inl (1 + ((i + 1 : Nat) : Int), ((i + 1 : Nat) : Int), List.set m i (laws_markText (1 + (i : Int)))), [0], ?_, ⟨i + 1, rfl, hlt, rfl, ?_, fun j hj' => ?_⟩, ?_⟩
      · unfold laws_markStringS_loop0_step
        refine (DT.get_yes (nat_dec hlt')).trans ((DT.get_need (markText_need _ (by omega) (by omega))).trans ((DT.get_need (nat_in hlt')).trans ((DT.get_need e2).trans ?_)))
        simp only [Int.toNat_natCast, w1, w2]
        rfl
      · rw [List.length_set]; exact hm
      · rcases Nat.lt_or_ge j i with h | h
        · rw [getD_set_ne (by omega)]; exact hj j h
        · rw [show j = i from by omega, getD_set (by omega)]
      · show l.length - ((i + 1 : Nat) : Int).toNat < l.length - ((i : Nat) : Int).toNat
        rw [Int.toNat_natCast, Int.toNat_natCast]
        omega
    · have he : i = l.length := Nat.le_antisymm hi hge
      refine ⟨.inr (1 + (i : Int), m), [0], ?_, ?_, hm, fun j hj' => hj j (by omega)⟩
      · unfold laws_markStringS_loop0_step
        simp only [DT.get, hm, he, nat_not]
      · rw [he]) (1, 0, l) ⟨0, rfl, Nat.zero_le _, rfl, rfl, fun j hj => absurd hj (Nat.not_lt_zero j)⟩
  have h1 : laws_markStringS_loop0_ends () (1, 0, l) = true := h1
  have hv : laws_markStringS l 1 = ((laws_markStringS_loop0 () (1, 0, l)).1, (laws_markStringS_loop0 () (1, 0, l)).2) := rfl
  refine ⟨?_, ?_⟩
  · unfold laws_markStringS_need laws_markStringS_tree
    simp only [DT.ok, h1]
  · rw [hv]
    exact h2

theorem heldS_all (l : List (List UInt8)) (hl : l.length ≤ 2 ^ 41) (h : ∀ j, j < l.length → l.getD j default = laws_markText (1 + (j : Int))) : laws_heldStringS_need l 1 = true ∧ laws_heldStringS l 1 = 1 + (l.length : Int) := by
  obtain ⟨h1, h2⟩ := loop_post (step := laws_heldStringS_loop0_step l) (fun s => ∃ i : Nat, s.2 = (i : Int) ∧ i ≤ l.length ∧ s.1 = 1 + (i : Int)) (fun s => l.length - s.2.toNat)
    (fun r => r = .inr (1 + (l.length : Int))) (by
    rintro ⟨k, s⟩ ⟨i, hs, hi, hk⟩
    simp only at hs hk
    subst hs hk
    rcases Nat.lt_or_ge i l.length with hlt | hge
    · have w1 : IntKind.wrap .i64 (1 + (i : Int) + 1) = 1 + ((i + 1 : Nat) : Int) := by rw [wrap_small (by omega) (by omega)]; omega
      have w2 : IntKind.wrap .i64 ((i : Int) + 1) = ((i + 1 : Nat) : Int) := nat_next hlt (by omega)
      refine ⟨.inl (1 + ((i + 1 : Nat) : Int), ((i + 1 : Nat) : Int)), [], ?_, ⟨i + 1, rfl, hlt, rfl⟩, ?_⟩
      · unfold laws_heldStringS_loop0_step
        refine (DT.get_yes (nat_dec hlt)).trans ((DT.get_need (nat_in hlt)).trans ((DT.get_need (markText_need _ (by omega) (by omega))).trans ?_))
        simp only [Int.toNat_natCast, h i hlt, beq_self_eq_true, Bool.not_true, w1, w2]
        rfl
      · show l.length - ((i + 1 : Nat) : Int).toNat < l.length - ((i : Nat) : Int).toNat
        rw [Int.toNat_natCast, Int.toNat_natCast]
        omega
    · have he : i = l.length := Nat.le_antisymm hi hge
      subst he
      exact ⟨_, _, by unfold laws_heldStringS_loop0_step; exact (DT.get_no nat_not).trans rfl, rfl⟩) (1, 0) ⟨0, rfl, Nat.zero_le _, rfl⟩
  have h1 : laws_heldStringS_loop0_ends l (1, 0) = true := h1
  have h2 : laws_heldStringS_loop0 l (1, 0) = .inr (1 + (l.length : Int)) := h2
  unfold laws_heldStringS_need laws_heldStringS laws_heldStringS_tree
  simp only [DT.ok, DT.val, h1, h2, isL, rightD]
  exact ⟨trivial, trivial⟩

theorem pos1 (n : Nat) : decide (1 + (n : Int) < 0) = false := decide_eq_false (by omega)
theorem ne1 (n : Nat) : ((1 + (n : Int)) != 1 + (n : Int)) = false := by simp

theorem plain11 (t : List UInt8) : laws_FnExactRecoverJournal_need t = true ∧ laws_FnExactRecoverJournal t = true := by
  rcases Nat.lt_or_ge 1048576 t.length with hb | hs
  · have key : (laws_FnExactRecoverJournal_tree t).get = some true := by
      unfold laws_FnExactRecoverJournal_tree
      exact (DT.get_yes (decide_eq_true (by omega))).trans rfl
    exact DT.of_get key
  · have e1 : decide (((t.length : Nat) : Int) > 1048576) = false := decide_eq_false (by omega)
    obtain ⟨R, r0, r1, r2, r3, r4⟩ := recover_same t (by omega)
    unfold laws_FnExactRecoverJournal_need laws_FnExactRecoverJournal laws_FnExactRecoverJournal_tree
    cases hq : decide (((t.length : Nat) : Int) > 16000) with
    | true =>
      have hp : recP t R = .inl 0 := by unfold recP; rw [hq]
      rw [hp] at r2 r4
      obtain ⟨q1, q2⟩ := eqS_self [] (by simp)
      obtain ⟨m1, m2, m3, m4⟩ := markS_all [] (by simp)
      obtain ⟨k1, k2⟩ := heldS_all [] (by simp) (fun j hj => absurd hj (Nat.not_lt_zero j))
      have m2 : (laws_markStringS [] 1).1 = 1 := m2
      have k2 : laws_heldStringS [] 1 = 1 := k2
      have p1 : decide ((1 : Int) < 0) = false := rfl
      have p2 : ((1 : Int) != 1) = false := rfl
      have p3 : ((0 : Int) != 0) = false := rfl
      simp only [DT.ok, DT.val, e1, r1, r2, r3, r4, isL, leftD, q1, q2, m1, m2, k1, k2, p1, p2, p3, Bool.not_true]
      exact ⟨trivial, trivial⟩
    | false =>
      have hp : recP t R = .inr (R.2, R.1) := by unfold recP; rw [hq]
      rw [hp] at r2 r4
      obtain ⟨q1, q2⟩ := eqS_self R.2 (by omega)
      obtain ⟨m1, m2, m3, m4⟩ := markS_all R.2 r0
      obtain ⟨k1, k2⟩ := heldS_all (laws_markStringS R.2 1).2 (by omega) (fun j hj => m4 j (by omega))
      rw [m3] at k2
      have p3 : (R.1 != R.1) = false := by simp
      simp only [DT.ok, DT.val, e1, r1, r2, r3, r4, isL, rightD, q1, q2, m1, m2, k1, k2, pos1, ne1, p3, Bool.not_true]
      exact ⟨trivial, trivial⟩

end Go.Proofs.YtcipkfndnkmjlaaDoor
