/- Plain law, part 16: marks of entries, and that recoveries are the same. -/
import Derived.Test.YtodhhjcgjkfmpaaP15
namespace Go.Proofs.Ytodhhjcgjkfmpaa
set_option linter.unusedVariables false
set_option linter.unusedSimpArgs false

theorem eqOrbit_self (o : Orbit) : laws_eqOrbit_need o o = true ∧ laws_eqOrbit o o = true := by
  unfold laws_eqOrbit_need laws_eqOrbit laws_eqOrbit_tree
  simp only [DT.ok, DT.val, fconvOk_up, sameFloat_self, Bool.not_true]
  exact ⟨trivial, trivial⟩

theorem eqEntry_self (e : Entry) : laws_eqEntry_need e e = true ∧ laws_eqEntry e e = true := by
  unfold laws_eqEntry_need laws_eqEntry laws_eqEntry_tree
  simp only [DT.ok, DT.val, fconvOk_up, sameFloat_self, (eqOrbit_self _).1, (eqOrbit_self _).2, beq_self_eq_true, Bool.not_true]
  exact ⟨trivial, trivial⟩

theorem eqEntryS_self (l : List Entry) (hl : l.length ≤ 2 ^ 62) : laws_eqEntryS_need l l = true ∧ laws_eqEntryS l l = true := by
  obtain ⟨h1, h2⟩ := scan_loop (α := Unit) (β := Unit) (step := laws_eqEntryS_loop0_step (l, l)) l.length (fun _ => none) () (fun i hi => ⟨[], by
    unfold laws_eqEntryS_loop0_step
    simp only [DT.get, nat_dec hi, nat_ge, Bool.and_self, (eqEntry_self _).1, (eqEntry_self _).2, Bool.not_true, nat_next hi hl]⟩) ⟨[], by
    unfold laws_eqEntryS_loop0_step
    simp only [DT.get, nat_not]⟩
  have hf : firstOf (fun _ => (none : Option Unit)) l.length = none := by
    unfold firstOf
    rw [List.findSome?_eq_none_iff]
    exact fun _ _ => rfl
  rw [hf] at h2
  have h1 : laws_eqEntryS_loop0_ends (l, l) 0 = true := h1
  have h2 : laws_eqEntryS_loop0 (l, l) 0 = .inr () := h2
  have hne : (((l.length : Nat) : Int) != ((l.length : Nat) : Int)) = false := by simp
  unfold laws_eqEntryS_need laws_eqEntryS laws_eqEntryS_tree
  simp only [DT.ok, DT.val, hne, h1, h2, isL]
  exact ⟨trivial, trivial⟩

/-! ## Marks -/

theorem markText_need (k : Int) (h0 : 0 < k) (h1 : k ≤ 2 ^ 52) : laws_markText_need k = true := by
  have h : loopEnds (laws_markText_loop0_step ()) (k, []) = true ∧ (fun r : List UInt8 => (r.length : Int) ≤ k) (loopVal (laws_markText_loop0_step ()) (k, [])) := by
    refine loop_post (step := laws_markText_loop0_step ()) (fun s => 0 ≤ s.1 ∧ s.1 + (s.2.length : Int) ≤ k) (fun s => s.1.toNat) (fun r => (r.length : Int) ≤ k) ?_ (k, []) ⟨by show 0 ≤ k; omega, by show k + ((0 : Nat) : Int) ≤ k; omega⟩
    rintro ⟨n, t⟩ ⟨a0, a1⟩
    simp only at a0 a1
    by_cases hn : n = 0
    · subst hn
      exact ⟨.inr t, [], rfl, by show (t.length : Int) ≤ k; omega⟩
    · have e1 : decide (n > 0) = true := decide_eq_true (by omega)
      have e2 : Int.tdiv n 10 = n / 10 := Int.tdiv_eq_ediv_of_nonneg a0
      have e3 : IntKind.wrap .i64 (n / 10) = n / 10 := wrap_small (by omega) (by omega)
      have e4 : ∀ b : Int, (strOf [b]).length = 1 := fun b => rfl
      have e5 : decide (1 + t.length ≤ 9223372036854775807) = true := decide_eq_true (by omega)
      refine ⟨.inl (n / 10, strOf [IntKind.wrap .u8 (IntKind.wrap .i64 (48 + Int.tmod n 10))] ++ t), [], ?_, ⟨?_, ?_⟩, ?_⟩
      · unfold laws_markText_loop0_step
        simp only [DT.get, e1, e2, e3, e4, e5]
      · show 0 ≤ n / 10
        omega
      · show n / 10 + ((strOf [_] ++ t).length : Int) ≤ k
        rw [List.length_append, e4]
        omega
      · show (n / 10).toNat < n.toNat
        omega
  have h2 : laws_markText_loop0_ends () (k, []) = true := h.1
  have h3 : ((laws_markText_loop0 () (k, [])).length : Int) ≤ k := h.2
  have e1 : decide (k ≤ 0) = false := decide_eq_false (by omega)
  have e2 : decide (List.length [109] + List.length (laws_markText_loop0 () (k, [])) ≤ 9223372036854775807) = true := decide_eq_true (by show 1 + _ ≤ _; omega)
  unfold laws_markText_need laws_markText_tree
  simp only [DT.ok, e1, h2, e2]

/-- What an entry holds that is marked from k on. -/
noncomputable def markE (k : Int) : Entry := ⟨laws_markText k, fofInt .f32 (k + 1), ⟨fofInt .f32 (k + 2), fofInt .f32 (k + 3), fofInt .f32 (k + 4), fofInt .f32 (k + 5), fofInt .f32 (k + 6), fofInt .f32 (k + 7)⟩⟩

theorem mark_step (l : List Entry) (k : Int) (i : Nat) (hi : i < l.length) (hl : l.length ≤ 2 ^ 40) (hk : 0 < k) (hk2 : k ≤ 2 ^ 50) :
    (laws_markEntryS_loop0_step () (k, (i : Int), l)).get = some (.inl (k + 8, ((i + 1 : Nat) : Int), List.set l i (markE k)), [0]) := by
  have hd : decide (((i : Nat) : Int) < ((l.length : Nat) : Int)) = true := nat_dec hi
  have hin2 : decide (Int.toNat ((i : Nat) : Int) < l.length) = true := decide_eq_true (by omega)
  have hlen : ∀ x : Entry, (List.set l i x).length = l.length := fun x => List.length_set ..
  have ht : Int.toNat ((i : Nat) : Int) = i := Int.toNat_natCast i
  have h00 : decide ((0 : Int) ≤ ((i : Nat) : Int)) = true := decide_eq_true (by omega)
  have m0 := markText_need k hk (by omega)
  have w1 : IntKind.wrap .i64 (k + 1) = k + 1 := wrap_small (by omega) (by omega)
  have w2 : IntKind.wrap .i64 (k + 1 + 1) = k + 2 := by rw [wrap_small (by omega) (by omega)]; omega
  have w3 : IntKind.wrap .i64 (k + 2 + 1) = k + 3 := by rw [wrap_small (by omega) (by omega)]; omega
  have w4 : IntKind.wrap .i64 (k + 3 + 1) = k + 4 := by rw [wrap_small (by omega) (by omega)]; omega
  have w5 : IntKind.wrap .i64 (k + 4 + 1) = k + 5 := by rw [wrap_small (by omega) (by omega)]; omega
  have w6 : IntKind.wrap .i64 (k + 5 + 1) = k + 6 := by rw [wrap_small (by omega) (by omega)]; omega
  have w7 : IntKind.wrap .i64 (k + 6 + 1) = k + 7 := by rw [wrap_small (by omega) (by omega)]; omega
  have w8 : IntKind.wrap .i64 (k + 7 + 1) = k + 8 := by rw [wrap_small (by omega) (by omega)]; omega
  have wi : IntKind.wrap .i64 (((i : Nat) : Int) + 1) = ((i + 1 : Nat) : Int) := nat_next hi (by omega)
  unfold laws_markEntryS_loop0_step
  simp only [DT.get, hd, h00, Bool.and_self, m0, hin2, ht, hlen, List.length_set, getD_set hi, List.set_set, w1, w2, w3, w4, w5, w6, w7, w8, wi, markE, decide_eq_true hi]

theorem mark_all (l : List Entry) (hl : l.length ≤ 2 ^ 40) : laws_markEntryS_need l 1 = true ∧ (laws_markEntryS l 1).1 = 1 + 8 * (l.length : Int) ∧ (laws_markEntryS l 1).2.length = l.length ∧ ∀ j, j < l.length → (laws_markEntryS l 1).2.getD j default = markE (1 + 8 * (j : Int)) := by
  obtain ⟨h1, h2⟩ := loop_post (step := laws_markEntryS_loop0_step ()) (fun s => ∃ i : Nat, s.2.1 = (i : Int) ∧ i ≤ l.length ∧ s.1 = 1 + 8 * (i : Int) ∧ s.2.2.length = l.length ∧ ∀ j, j < i → s.2.2.getD j default = markE (1 + 8 * (j : Int))) (fun s => l.length - s.2.1.toNat)
    (fun r => r.1 = 1 + 8 * (l.length : Int) ∧ r.2.length = l.length ∧ ∀ j, j < l.length → r.2.getD j default = markE (1 + 8 * (j : Int))) (by
    rintro ⟨k, s, m⟩ ⟨i, hs, hi, hk, hm, hj⟩
    simp only at hs hk hm hj
    subst hs hk
    rcases Nat.lt_or_ge i l.length with hlt | hge
    · refine ⟨_, _, mark_step m _ i (by omega) (by omega) (by omega) (by omega), ⟨i + 1, rfl, hlt, ?_, ?_, fun j hj' => ?_⟩, ?_⟩
      · show 1 + 8 * (i : Int) + 8 = _
        omega
      · rw [List.length_set]; exact hm
      · rcases Nat.lt_or_ge j i with h | h
        · rw [getD_set_ne (by omega)]; exact hj j h
        · rw [show j = i from by omega, getD_set (by omega)]
      · show l.length - ((i + 1 : Nat) : Int).toNat < l.length - ((i : Nat) : Int).toNat
        rw [Int.toNat_natCast, Int.toNat_natCast]
        omega
    · have he : i = l.length := Nat.le_antisymm hi hge
      refine ⟨.inr (1 + 8 * (i : Int), m), [0], ?_, ?_, hm, fun j hj' => hj j (by omega)⟩
      · unfold laws_markEntryS_loop0_step
        simp only [DT.get, hm, he, nat_not]
      · rw [he]) (1, 0, l) ⟨0, rfl, Nat.zero_le _, rfl, rfl, fun j hj => absurd hj (Nat.not_lt_zero j)⟩
  have h1 : laws_markEntryS_loop0_ends () (1, 0, l) = true := h1
  have hv : laws_markEntryS l 1 = ((laws_markEntryS_loop0 () (1, 0, l)).1, (laws_markEntryS_loop0 () (1, 0, l)).2) := rfl
  refine ⟨?_, ?_⟩
  · unfold laws_markEntryS_need laws_markEntryS_tree
    simp only [DT.ok, h1]
  · rw [hv]
    exact h2

theorem held_all (l : List Entry) (hl : l.length ≤ 2 ^ 40) (h : ∀ j, j < l.length → l.getD j default = markE (1 + 8 * (j : Int))) : laws_heldEntryS_need l 1 = true ∧ laws_heldEntryS l 1 = 1 + 8 * (l.length : Int) := by
  obtain ⟨h1, h2⟩ := loop_post (step := laws_heldEntryS_loop0_step l) (fun s => ∃ i : Nat, s.2 = (i : Int) ∧ i ≤ l.length ∧ s.1 = 1 + 8 * (i : Int)) (fun s => l.length - s.2.toNat)
    (fun r => r = .inr (1 + 8 * (l.length : Int))) (by
    rintro ⟨k, s⟩ ⟨i, hs, hi, hk⟩
    simp only at hs hk
    subst hs
    rcases Nat.lt_or_ge i l.length with hlt | hge
    · have hk0 : 0 < k := by omega
      have hk1 : k ≤ 2 ^ 50 := by omega
      have hd := nat_dec hlt
      have ht : Int.toNat ((i : Nat) : Int) = i := Int.toNat_natCast i
      have h00 : decide ((0 : Int) ≤ ((i : Nat) : Int)) = true := decide_eq_true (by omega)
      have m0 := markText_need k hk0 (by omega)
      have w1 : IntKind.wrap .i64 (k + 1) = k + 1 := wrap_small (by omega) (by omega)
      have w2 : IntKind.wrap .i64 (k + 1 + 1) = k + 2 := by rw [wrap_small (by omega) (by omega)]; omega
      have w3 : IntKind.wrap .i64 (k + 2 + 1) = k + 3 := by rw [wrap_small (by omega) (by omega)]; omega
      have w4 : IntKind.wrap .i64 (k + 3 + 1) = k + 4 := by rw [wrap_small (by omega) (by omega)]; omega
      have w5 : IntKind.wrap .i64 (k + 4 + 1) = k + 5 := by rw [wrap_small (by omega) (by omega)]; omega
      have w6 : IntKind.wrap .i64 (k + 5 + 1) = k + 6 := by rw [wrap_small (by omega) (by omega)]; omega
      have w7 : IntKind.wrap .i64 (k + 6 + 1) = k + 7 := by rw [wrap_small (by omega) (by omega)]; omega
      have w8 : IntKind.wrap .i64 (k + 7 + 1) = k + 8 := by rw [wrap_small (by omega) (by omega)]; omega
      have wi : IntKind.wrap .i64 (((i : Nat) : Int) + 1) = ((i + 1 : Nat) : Int) := nat_next hlt (by omega)
      have hg : l.getD i default = markE k := by rw [h i hlt, hk]
      have f1 := fne_mark (n := k + 1) (by omega) (by omega)
      have f2 := fne_mark (n := k + 2) (by omega) (by omega)
      have f3 := fne_mark (n := k + 3) (by omega) (by omega)
      have f4 := fne_mark (n := k + 4) (by omega) (by omega)
      have f5 := fne_mark (n := k + 5) (by omega) (by omega)
      have f6 := fne_mark (n := k + 6) (by omega) (by omega)
      have f7 := fne_mark (n := k + 7) (by omega) (by omega)
      refine ⟨.inl (k + 8, ((i + 1 : Nat) : Int)), [], ?_, ⟨i + 1, rfl, hlt, ?_⟩, ?_⟩
      · unfold laws_heldEntryS_loop0_step
        simp only [DT.get, hd, h00, Bool.and_self, m0, ht, hg, markE, beq_self_eq_true, Bool.not_true, w1, w2, w3, w4, w5, w6, w7, w8, wi, f1, f2, f3, f4, f5, f6, f7]
      · show k + 8 = _
        omega
      · show l.length - ((i + 1 : Nat) : Int).toNat < l.length - ((i : Nat) : Int).toNat
        rw [Int.toNat_natCast, Int.toNat_natCast]
        omega
    · have he : i = l.length := Nat.le_antisymm hi hge
      refine ⟨.inr (.inr k), [], ?_, ?_⟩
      · unfold laws_heldEntryS_loop0_step
        simp only [DT.get, he, nat_not]
      · rw [hk, he]) (1, 0) ⟨0, rfl, Nat.zero_le _, rfl⟩
  have h1 : laws_heldEntryS_loop0_ends l (1, 0) = true := h1
  have h2 : laws_heldEntryS_loop0 l (1, 0) = .inr (1 + 8 * (l.length : Int)) := h2
  unfold laws_heldEntryS_need laws_heldEntryS laws_heldEntryS_tree
  simp only [DT.ok, DT.val, h1, h2, isL, rightD]
  exact ⟨trivial, trivial⟩

theorem len_pos (n : Nat) : decide (1 + 8 * (n : Int) < 0) = false := decide_eq_false (by omega)
theorem len_ne (n : Nat) : ((1 + 8 * (n : Int)) != 1 + 8 * (n : Int)) = false := by simp

theorem plain3 (a : List UInt8) : laws_FnExactRecoverEntries_need a = true ∧ laws_FnExactRecoverEntries a = true := by
  rcases Nat.lt_or_ge 1048576 a.length with hbig | hsmall
  · have e1 : decide (((a.length : Nat) : Int) > 1048576) = true := decide_eq_true (by omega)
    unfold laws_FnExactRecoverEntries_need laws_FnExactRecoverEntries laws_FnExactRecoverEntries_tree
    exact DT.of_get (DT.get_yes e1)
  · have e1 : decide (((a.length : Nat) : Int) > 1048576) = false := decide_eq_false (by omega)
    obtain ⟨r1, r2, r3, r4⟩ := recover_same a (by omega)
    obtain ⟨R, hR⟩ : ∃ R, R = spec_RecoverEntries a := ⟨_, rfl⟩
    rw [← hR] at r3 r4
    obtain ⟨q1, q2⟩ := eqEntryS_self R.1 (by omega)
    obtain ⟨m1, m2, m3, m4⟩ := mark_all R.1 (by omega)
    obtain ⟨k1, k2⟩ := held_all (laws_markEntryS R.1 1).2 (by omega) (fun j hj => m4 j (by omega))
    rw [m3] at k2
    have hne : (R.2.1 != R.2.1) = false := by simp
    have hbe : (!(R.2.2 == R.2.2)) = false := by simp
    unfold laws_FnExactRecoverEntries_need laws_FnExactRecoverEntries laws_FnExactRecoverEntries_tree
    simp only [DT.ok, DT.val, e1, r1, r2, r3, ← hR, q1, q2, hne, hbe, m1, m2, k1, k2, len_pos, len_ne, Bool.not_true]
    exact ⟨trivial, trivial⟩

end Go.Proofs.Ytodhhjcgjkfmpaa
