/- Plain law of CountOutputs, the rest: lines are counted alike. -/
import Derived.Test.YtcipkfndnkmjlaaDoorP1
namespace Go.Proofs.YtcipkfndnkmjlaaDoor
set_option linter.unusedVariables false
set_option linter.unusedSimpArgs false

def isBad (x : List UInt8) : Bool := x == [110, 111] || x == [119, 104, 97, 116]
def badTo (l : List (List UInt8)) (i : Nat) : Nat := (l.take i).countP isBad

theorem badTo_le (l : List (List UInt8)) (i : Nat) : badTo l i ≤ i := by
  unfold badTo
  have := List.countP_le_length (p := isBad) (l := l.take i)
  rw [List.length_take] at this
  omega

theorem badTo_next {l : List (List UInt8)} {i : Nat} (h : i < l.length) : badTo l (i + 1) = badTo l i + (if isBad (l.getD i default) then 1 else 0) := by
  unfold badTo
  rw [List.take_succ_eq_append_getElem h, List.countP_append, List.countP_singleton]
  have : l.getD i default = l[i] := by rw [List.getD_eq_getElem?_getD, List.getElem?_eq_getElem h, Option.getD_some]
  rw [this]

theorem spec_count (l : List (List UInt8)) (hl : l.length ≤ 2 ^ 40) : spec_CountOutputs_loop0_ends l (0, 0) = true ∧ spec_CountOutputs_loop0 l (0, 0) = (badTo l l.length : Int) := by
  refine loop_post (step := spec_CountOutputs_loop0_step l) (fun s => ∃ i : Nat, s.2 = (i : Int) ∧ i ≤ l.length ∧ s.1 = (badTo l i : Int)) (fun s => l.length - s.2.toNat) (fun r => r = (badTo l l.length : Int)) ?_ (0, 0) ⟨0, rfl, Nat.zero_le _, rfl⟩
  rintro ⟨b, k⟩ ⟨i, hk, hi, hb⟩
  simp only at hk hb
  subst hk hb
  unfold spec_CountOutputs_loop0_step
  rcases Nat.lt_or_ge i l.length with hlt | hge
  · have hbl := badTo_le l i
    have hn := badTo_next hlt
    have e2 : decide (Int.toNat ((i : Nat) : Int) < l.length) = true := decide_eq_true (by omega)
    have w : IntKind.wrap .i64 ((i : Int) + 1) = ((i + 1 : Nat) : Int) := nat_next hlt (by omega)
    have wb : IntKind.wrap .i64 ((badTo l i : Int) + 1) = ((badTo l i + 1 : Nat) : Int) := by rw [wrap_small (by omega) (by omega)]; omega
    have hm : l.length - ((i + 1 : Nat) : Int).toNat < l.length - ((i : Nat) : Int).toNat := by
      rw [Int.toNat_natCast, Int.toNat_natCast]; omega
    refine ⟨.inl ((badTo l (i + 1) : Int), ((i + 1 : Nat) : Int)), [0], ?_, ⟨i + 1, rfl, hlt, rfl⟩, hm⟩
    refine (DT.get_yes (nat_dec hlt)).trans ((DT.get_need (nat_in hlt)).trans ((DT.get_need e2).trans ?_))
    simp only [Int.toNat_natCast]
    unfold isBad at hn
    cases h1 : (l.getD i default == [110, 111]) with
    | true =>
      rw [h1] at hn
      simp only [Bool.true_or, if_true] at hn
      refine (DT.get_yes rfl).trans ?_
      rw [DT.get_leaf, w, wb, hn]
    | false =>
      rw [h1] at hn
      refine (DT.get_no rfl).trans ((DT.get_need (nat_in hlt)).trans ((DT.get_need (by rw [decide_eq_true hlt])).trans ?_))
      cases h2 : (l.getD i default == [119, 104, 97, 116]) with
      | true =>
        rw [h2] at hn
        simp only [Bool.or_true, if_true] at hn
        refine (DT.get_yes rfl).trans ?_
        rw [DT.get_leaf, w, wb, hn]
      | false =>
        rw [h2] at hn
        simp only [Bool.or_self, Bool.false_eq_true, if_false, Nat.add_zero] at hn
        refine (DT.get_no rfl).trans ?_
        rw [DT.get_leaf, w, hn]
  · have he : i = l.length := Nat.le_antisymm hi hge
    subst he
    exact ⟨_, _, (DT.get_no nat_not).trans rfl, rfl⟩

theorem impl_count (l : List (List UInt8)) (hl : l.length ≤ 2 ^ 40) : impl_CountOutputs_loop0_ends (((l.length : Nat) : Int), l) (0, 0, 0) = true ∧ impl_CountOutputs_loop0 (((l.length : Nat) : Int), l) (0, 0, 0) = ((badTo l l.length : Int), ((l.length - badTo l l.length : Nat) : Int)) := by
  refine loop_post (step := impl_CountOutputs_loop0_step (((l.length : Nat) : Int), l)) (fun s => ∃ i : Nat, s.2.2 = (i : Int) ∧ i ≤ l.length ∧ s.1 = (badTo l i : Int) ∧ s.2.1 = ((i - badTo l i : Nat) : Int)) (fun s => l.length - s.2.2.toNat) (fun r => r = ((badTo l l.length : Int), ((l.length - badTo l l.length : Nat) : Int))) ?_ (0, 0, 0) ⟨0, rfl, Nat.zero_le _, rfl, rfl⟩
  rintro ⟨b, g, k⟩ ⟨i, hk, hi, hb, hg⟩
  simp only at hk hb hg
  subst hk hb hg
  unfold impl_CountOutputs_loop0_step
  rcases Nat.lt_or_ge i l.length with hlt | hge
  · have hbl := badTo_le l i
    have hn := badTo_next hlt
    have e2 : decide (Int.toNat ((i : Nat) : Int) < l.length) = true := decide_eq_true (by omega)
    have w : IntKind.wrap .i64 ((i : Int) + 1) = ((i + 1 : Nat) : Int) := nat_next hlt (by omega)
    have wb : IntKind.wrap .i64 ((badTo l i : Int) + 1) = ((badTo l i + 1 : Nat) : Int) := by rw [wrap_small (by omega) (by omega)]; omega
    have wg : IntKind.wrap .i64 (((i - badTo l i : Nat) : Int) + 1) = ((i - badTo l i + 1 : Nat) : Int) := by rw [wrap_small (by omega) (by omega)]; omega
    have hm : l.length - ((i + 1 : Nat) : Int).toNat < l.length - ((i : Nat) : Int).toNat := by
      rw [Int.toNat_natCast, Int.toNat_natCast]; omega
    refine ⟨.inl ((badTo l (i + 1) : Int), ((i + 1 - badTo l (i + 1) : Nat) : Int), ((i + 1 : Nat) : Int)), [0], ?_, ⟨i + 1, rfl, hlt, rfl, rfl⟩, hm⟩
    refine (DT.get_yes (nat_dec hlt)).trans ((DT.get_need (nat_in hlt)).trans ((DT.get_need e2).trans ?_))
    simp only [Int.toNat_natCast]
    unfold isBad at hn
    cases h1 : (l.getD i default == [110, 111]) with
    | true =>
      rw [h1] at hn
      simp only [Bool.true_or, if_true] at hn
      refine (DT.get_yes rfl).trans ?_
      rw [DT.get_leaf, w, wb, hn, show i + 1 - (badTo l i + 1) = i - badTo l i from by omega]
    | false =>
      rw [h1] at hn
      refine (DT.get_no rfl).trans ?_
      cases h2 : (l.getD i default == [119, 104, 97, 116]) with
      | true =>
        rw [h2] at hn
        simp only [Bool.or_true, if_true] at hn
        refine (DT.get_yes rfl).trans ?_
        rw [DT.get_leaf, w, wb, hn, show i + 1 - (badTo l i + 1) = i - badTo l i from by omega]
      | false =>
        rw [h2] at hn
        simp only [Bool.or_self, Bool.false_eq_true, if_false, Nat.add_zero] at hn
        refine (DT.get_no rfl).trans ?_
        rw [DT.get_leaf, w, wg, hn, show i + 1 - badTo l i = i - badTo l i + 1 from by omega]
  · have he : i = l.length := Nat.le_antisymm hi hge
    subst he
    exact ⟨_, _, (DT.get_no nat_not).trans rfl, rfl⟩

/-- The lines ahead of the last part; the last part. -/
def linesP (a : List UInt8) : List (List UInt8) := (cuts a).take ((cuts a).length - 1)
def lastP (a : List UInt8) : List UInt8 := (cuts a).getD ((cuts a).length - 1) default

theorem lines_spec (a : List UInt8) (ha : a.length ≤ 2 ^ 40) : spec_l08Lines_need a = true ∧ spec_l08Lines a = (linesP a, lastP a) := by
  obtain ⟨h1, h2⟩ := cut_eq a ha
  have hp := cuts_pos a
  have hl := cuts_le a
  have w : IntKind.wrap .i64 ((((cuts a).length : Nat) : Int) - 1) = (((cuts a).length - 1 : Nat) : Int) := by rw [wrap_small (by omega) (by omega)]; omega
  have key : (spec_l08Lines_tree a).get = some (linesP a, lastP a) := by
    unfold spec_l08Lines_tree
    refine (DT.get_need h1).trans ?_
    simp only [h2, w]
    refine (DT.get_need (by rw [decide_eq_true (p := (0 : Int) ≤ (((cuts a).length - 1 : Nat) : Int)) (by omega), decide_eq_true (by omega)]; rfl)).trans ((DT.get_need (nat_in (by omega))).trans ?_)
    simp only [Int.toNat_natCast]
    refine (DT.get_need (decide_eq_true (by omega))).trans ?_
    rw [DT.get_leaf, Nat.sub_zero]
    rfl
  exact DT.of_get key

theorem lines_impl (a : List UInt8) (ha : a.length ≤ 2 ^ 40) : impl_linesOf_need a = true ∧ impl_linesOf a = (linesP a, decide (((a.length : Nat) : Int) ≤ 16000) && lastP a == []) := by
  obtain ⟨h1, h2⟩ := split_eq a ha
  have hp := cuts_pos a
  have hl := cuts_le a
  have w : IntKind.wrap .i64 ((((cuts a).length : Nat) : Int) - 1) = (((cuts a).length - 1 : Nat) : Int) := by rw [wrap_small (by omega) (by omega)]; omega
  have key : (impl_linesOf_tree a).get = some (linesP a, decide (((a.length : Nat) : Int) ≤ 16000) && lastP a == []) := by
    unfold impl_linesOf_tree
    refine (DT.get_need h1).trans ?_
    simp only [h2, w]
    refine (DT.get_need (by rw [decide_eq_true (p := (0 : Int) ≤ (((cuts a).length - 1 : Nat) : Int)) (by omega), decide_eq_true (by omega)]; rfl)).trans ?_
    cases hs : decide (((a.length : Nat) : Int) ≤ 16000) with
    | true =>
      refine (DT.get_yes rfl).trans ((DT.get_need (nat_in (by omega))).trans ?_)
      simp only [Int.toNat_natCast]
      refine (DT.get_need (decide_eq_true (by omega))).trans ?_
      rw [DT.get_leaf, Nat.sub_zero]
      rfl
    | false =>
      refine (DT.get_no rfl).trans ?_
      rw [DT.get_leaf, Int.toNat_natCast, Nat.sub_zero]
      rfl
  exact DT.of_get key

theorem linesP_len (a : List UInt8) : (linesP a).length ≤ a.length := by
  unfold linesP
  have := cuts_le a
  rw [List.length_take]
  omega

def countP (a : List UInt8) : Int × Int × Bool := match decide (((a.length : Nat) : Int) ≤ 16000) && lastP a == [] with
  | true => ((badTo (linesP a) (linesP a).length : Int), (((linesP a).length - badTo (linesP a) (linesP a).length : Nat) : Int), true)
  | false => (0, 0, false)

theorem count_impl (a : List UInt8) (ha : a.length ≤ 2 ^ 40) : impl_CountOutputs_need a = true ∧ impl_CountOutputs a = countP a := by
  obtain ⟨h1, h2⟩ := lines_impl a ha
  have hll := linesP_len a
  obtain ⟨c1, c2⟩ := impl_count (linesP a) (by omega)
  have key : (impl_CountOutputs_tree a).get = some (countP a) := by
    unfold impl_CountOutputs_tree countP
    refine (DT.get_need h1).trans ?_
    simp only [h2]
    cases hc : (decide (((a.length : Nat) : Int) ≤ 16000) && lastP a == []) with
    | true =>
      refine (DT.get_no rfl).trans ((DT.get_need c1).trans ?_)
      rw [DT.get_leaf, c2]
    | false => exact (DT.get_yes rfl).trans rfl
  exact DT.of_get key

theorem count_spec (a : List UInt8) (ha : a.length ≤ 2 ^ 40) : spec_CountOutputs_need a = true ∧ spec_CountOutputs a = countP a := by
  obtain ⟨h1, h2⟩ := lines_spec a ha
  have hll := linesP_len a
  obtain ⟨c1, c2⟩ := spec_count (linesP a) (by omega)
  have hbl := badTo_le (linesP a) (linesP a).length
  have key : (spec_CountOutputs_tree a).get = some (countP a) := by
    unfold spec_CountOutputs_tree countP
    rcases Nat.lt_or_ge 16000 a.length with hb | hs
    · rw [decide_eq_false (p := ((a.length : Nat) : Int) ≤ 16000) (by omega)]
      exact (DT.get_yes (decide_eq_true (by omega))).trans rfl
    · rw [decide_eq_true (p := ((a.length : Nat) : Int) ≤ 16000) (by omega)]
      refine (DT.get_no (decide_eq_false (by omega))).trans ((DT.get_need h1).trans ?_)
      simp only [h2, Bool.true_and]
      cases hc : (lastP a == []) with
      | false => exact (DT.get_yes rfl).trans rfl
      | true =>
        refine (DT.get_no rfl).trans ((DT.get_need c1).trans ?_)
        have w : IntKind.wrap .i64 ((((linesP a).length : Nat) : Int) - (badTo (linesP a) (linesP a).length : Int)) = (((linesP a).length - badTo (linesP a) (linesP a).length : Nat) : Int) := by rw [wrap_small (by omega) (by omega)]; omega
        rw [DT.get_leaf, c2, w]
  exact DT.of_get key

theorem plain12 (a : List UInt8) : laws_FnExactCountOutputs_need a = true ∧ laws_FnExactCountOutputs a = true := by
  have key : (laws_FnExactCountOutputs_tree a).get = some true := by
    unfold laws_FnExactCountOutputs_tree
    rcases Nat.lt_or_ge 1048576 a.length with hb | hs
    · exact (DT.get_yes (decide_eq_true (by omega))).trans rfl
    · obtain ⟨i1, i2⟩ := count_impl a (by omega)
      obtain ⟨s1, s2⟩ := count_spec a (by omega)
      refine (DT.get_no (decide_eq_false (by omega))).trans ((DT.get_need s1).trans ((DT.get_need i1).trans ?_))
      simp only [i2, s2, bne_self_eq_false, beq_self_eq_true, Bool.not_true]
      rfl
  exact DT.of_get key

end Go.Proofs.YtcipkfndnkmjlaaDoor
