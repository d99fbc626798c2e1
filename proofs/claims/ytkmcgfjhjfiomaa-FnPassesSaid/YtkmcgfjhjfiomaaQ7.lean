/- The plain law of FnPasses, part 7: the law's loops over what is seen. -/
import Derived.Test.YtkmcgfjhjfiomaaQ6
namespace Go.Proofs.Ytkmcgfjhjfiomaa
set_option linter.unusedVariables false
set_option linter.unusedSimpArgs false

theorem loop0_seen {a1 : List Int} (a0 : List Int) (hb : Bytes a1) : laws_FnPasses_loop0_ends (a0, a1) (0, []) = true ∧ 3 ≤ (laws_FnPasses_loop0 (a0, a1) (0, [])).length ∧ (laws_FnPasses_loop0 (a0, a1) (0, [])).length ≤ 14 := by
  obtain ⟨n1, n2, n3⟩ := at_eq hb 0 12 (by decide) (by decide) (by decide)
  have hw0 : IntKind.wrap .i64 (3 + laws_r8At a1 0 12) = 3 + laws_r8At a1 0 12 := wrap_small (by omega) (by omega)
  refine loop_post (step := laws_FnPasses_loop0_step (a0, a1)) (fun s => ∃ k : Nat, (k : Int) ≤ 3 + laws_r8At a1 0 12 ∧ s.1 = (k : Int) ∧ s.2.length = k) (fun s => (3 + laws_r8At a1 0 12 - s.1).toNat) (fun r => 3 ≤ r.length ∧ r.length ≤ 14) ?_ (0, []) ⟨0, by simp; omega, rfl, rfl⟩
  rintro ⟨n, acc⟩ ⟨k, hk, hn, hlen⟩
  simp only at hn hlen
  subst hn
  by_cases hlt : (k : Int) < 3 + laws_r8At a1 0 12
  · have hw1 : IntKind.wrap .i64 (1 + (k : Int)) = 1 + (k : Int) := wrap_small (by omega) (by omega)
    have hw2 : IntKind.wrap .i64 ((k : Int) + 1) = ((k + 1 : Nat) : Int) := by rw [wrap_small (by omega) (by omega)]; push_cast; rfl
    obtain ⟨m1, m2, m3⟩ := at_eq hb (1 + (k : Int)) 2 (by omega) (by decide) (by decide)
    refine ⟨.inl (((k + 1 : Nat) : Int), acc ++ [laws_r8At a1 (1 + (k : Int)) 2 == 1]), [97], ?_, ⟨k + 1, by push_cast; omega, rfl, ?_⟩, by show (3 + laws_r8At a1 0 12 - ((k + 1 : Nat) : Int)).toNat < (3 + laws_r8At a1 0 12 - (k : Int)).toNat; omega⟩
    · unfold laws_FnPasses_loop0_step
      simp only [n1, hw0, decide_eq_true hlt, hw1, m1, hw2, hlen, List.length_singleton]
      simp only [DT.get]
      rw [room (by omega) (by decide)]
    · show (acc ++ [_]).length = k + 1
      rw [List.length_append, List.length_singleton, hlen]
  · refine ⟨.inr acc, [0], ?_, ?_⟩
    · unfold laws_FnPasses_loop0_step
      simp only [n1, hw0, decide_eq_false hlt]
      simp only [DT.get]
    · show 3 ≤ acc.length ∧ acc.length ≤ 14
      omega

theorem cnt_step (l : List Bool) (j : Nat) : cntT l true (j + 2) + cntT l false (j + 2) = cntT l true (j + 1) + cntT l false (j + 1) + (if (!(atB l (j + 1) == atB l j)) = true then 1 else 0) := by
  simp only [cntT]
  cases atB l (j + 1) <;> cases atB l j <;> simp <;> omega

theorem loop1_seen (a0 a1 : List Int) (l : List Bool) (r s : List Int) (hl : l.length ≤ 17) : laws_FnPasses_loop1_ends (a0, a1, l, r, s) (0, false, 0) = true ∧ laws_FnPasses_loop1 (a0, a1, l, r, s) (0, false, 0) = (((cntT l true l.length + cntT l false l.length : Nat) : Int), someB l l.length) := by
  refine loop_post (step := laws_FnPasses_loop1_step (a0, a1, l, r, s)) (fun s => ∃ k : Nat, k ≤ l.length ∧ s = (((cntT l true k + cntT l false k : Nat) : Int), someB l k, (k : Int))) (fun s => ((l.length : Int) - s.2.2).toNat) (fun r => r = (((cntT l true l.length + cntT l false l.length : Nat) : Int), someB l l.length)) ?_ (0, false, 0) ⟨0, Nat.zero_le _, rfl⟩
  rintro s ⟨k, hk, rfl⟩
  rcases Nat.lt_or_ge k l.length with hlt | hge
  · have hw : IntKind.wrap .i64 (((k : Nat) : Int) + 1) = ((k + 1 : Nat) : Int) := nat_next hlt (by omega)
    have hd := decide_eq_true hlt
    have hat : l.getD k default = atB l k := rfl
    have hsome : someB l (k + 1) = (someB l k || atB l k) := rfl
    have c1 := cnt_le l true k
    have c2 := cnt_le l false k
    match k, hk, hlt, hw, hd, hat, hsome, c1, c2 with
    | 0, hk, hlt, hw, hd, hat, hsome, c1, c2 =>
      refine ⟨.inl (0, someB l 1, 1), [0, 1, 2], ?_, ⟨1, hlt, rfl⟩, by show ((l.length : Int) - 1).toNat < ((l.length : Int) - 0).toNat; omega⟩
      have h0 : decide ((0 : Int) > 0) = false := rfl
      have hlt0 : decide ((((0 : Nat) : Nat) : Int) < ((l.length : Nat) : Int)) = true := nat_dec hlt
      have hs : someB l 1 = atB l 0 := by show (false || atB l 0) = _; rfl
      unfold laws_FnPasses_loop1_step
      simp only [hlt0, nat_ge, Bool.and_true, Int.toNat_natCast, hd, hat, hs, someB]
      simp only [DT.get]
      rfl
    | j + 1, hk, hlt, hw, hd, hat, hsome, c1, c2 =>
      have hgt : decide (((j + 1 : Nat) : Int) > 0) = true := decide_eq_true (by omega)
      have hwm : IntKind.wrap .i64 (((j + 1 : Nat) : Int) - 1) = ((j : Nat) : Int) := by rw [wrap_small (by omega) (by omega)]; omega
      have hj : j < l.length := by omega
      have hdj : decide (j < l.length) = true := decide_eq_true hj
      have hatj : l.getD j default = atB l j := rfl
      have hcs := cnt_step l j
      have hws : IntKind.wrap .i64 (((cntT l true (j + 1) + cntT l false (j + 1) : Nat) : Int) + 1) = ((cntT l true (j + 1) + cntT l false (j + 1) + 1 : Nat) : Int) := by rw [wrap_small (by omega) (by omega)]; push_cast; rfl
      refine ⟨.inl (((cntT l true (j + 2) + cntT l false (j + 2) : Nat) : Int), someB l (j + 2), ((j + 2 : Nat) : Int)), [0, 1, 2], ?_, ⟨j + 2, hlt, rfl⟩, by show ((l.length : Int) - ((j + 2 : Nat) : Int)).toNat < ((l.length : Int) - ((j + 1 : Nat) : Int)).toNat; omega⟩
      rw [hcs, hsome]
      cases q : (!(atB l (j + 1) == atB l j)) <;> cases q2 : someB l (j + 1) <;> (
        unfold laws_FnPasses_loop1_step
        simp only [nat_dec hlt, nat_dec hj, nat_ge, Bool.and_true, Int.toNat_natCast, hd, hdj, hat, hatj, hgt, hwm, q, q2, hw, hws, Bool.true_or, Bool.false_or, if_true, Bool.false_eq_true, if_false, Nat.add_zero]
        simp only [DT.get])
  · have : k = l.length := by omega
    subst this
    refine ⟨.inr (((cntT l true l.length + cntT l false l.length : Nat) : Int), someB l l.length), [0, 1, 2], ?_, rfl⟩
    unfold laws_FnPasses_loop1_step
    simp only [nat_not]
    simp only [DT.get]

theorem loop2_seen (a0 a1 : List Int) (l : List Bool) (hl : l.length ≤ 17) {a b : Int} (hL : LongP l l.length a b) (hb : 0 < b) : laws_FnPasses_loop2_ends (a0, a1, a, b, l) (0, 0) = true ∧ laws_FnPasses_loop2 (a0, a1, a, b, l) (0, 0) = .inr () := by
  obtain ⟨L1, L2, L3, L4, L5⟩ := hL
  obtain ⟨m1, m2, m3, m4⟩ := L5 hb
  refine loop_post (step := laws_FnPasses_loop2_step (a0, a1, a, b, l)) (fun s => ∃ k : Nat, k ≤ l.length ∧ s = (((stB l k : Nat) : Int), (k : Int))) (fun s => ((l.length : Int) - s.2).toNat) (fun r => r = .inr ()) ?_ (0, 0) ⟨0, Nat.zero_le _, rfl⟩
  rintro s ⟨k, hk, rfl⟩
  have hs := st_le l k
  rcases Nat.lt_or_ge k l.length with hlt | hge
  · have hw : IntKind.wrap .i64 (((k : Nat) : Int) + 1) = ((k + 1 : Nat) : Int) := nat_next hlt (by omega)
    have hd := decide_eq_true hlt
    cases q : l.getD k default with
    | false =>
      have hst : stB l (k + 1) = 0 := by
        show (if atB l k = true then stB l k + 1 else 0) = 0
        rw [show atB l k = false from q]; rfl
      refine ⟨.inl (((stB l (k + 1) : Nat) : Int), ((k + 1 : Nat) : Int)), [0], ?_, ⟨k + 1, hlt, rfl⟩, by show ((l.length : Int) - ((k + 1 : Nat) : Int)).toNat < ((l.length : Int) - (k : Int)).toNat; omega⟩
      unfold laws_FnPasses_loop2_step
      simp only [nat_dec hlt, nat_ge, Bool.and_true, Int.toNat_natCast, hd, q, Bool.not_false, hw, hst]
      simp only [DT.get]
      rfl
    | true =>
      have hst : stB l (k + 1) = stB l k + 1 := by
        show (if atB l k = true then stB l k + 1 else 0) = _
        rw [show atB l k = true from q]; rfl
      have hws : IntKind.wrap .i64 (((stB l k : Nat) : Int) + 1) = ((stB l (k + 1) : Nat) : Int) := by rw [hst, wrap_small (by omega) (by omega)]; push_cast; rfl
      have hle : decide (((stB l (k + 1) : Nat) : Int) > b) = false := decide_eq_false (by have := L1 (k + 1) hlt; omega)
      have hwab : IntKind.wrap .i64 (a + b) = a + b := wrap_small (by omega) (by omega)
      refine ⟨.inl (((stB l (k + 1) : Nat) : Int), ((k + 1 : Nat) : Int)), [0], ?_, ⟨k + 1, hlt, rfl⟩, by show ((l.length : Int) - ((k + 1 : Nat) : Int)).toNat < ((l.length : Int) - (k : Int)).toNat; omega⟩
      unfold laws_FnPasses_loop2_step
      cases q1 : decide (((k : Nat) : Int) ≥ a) <;> cases q2 : decide (((k : Nat) : Int) < a + b) <;> (
        simp only [nat_dec hlt, nat_ge, Bool.and_true, Int.toNat_natCast, hd, q, Bool.not_true, hw, hws, hle, q1, hwab, q2]
        simp only [DT.get])
  · have : k = l.length := by omega
    subst this
    refine ⟨.inr (.inr ()), [0], ?_, rfl⟩
    unfold laws_FnPasses_loop2_step
    simp only [nat_not]
    simp only [DT.get]

end Go.Proofs.Ytkmcgfjhjfiomaa
