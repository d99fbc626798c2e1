/- Plain law of RecoverJournal, part 2: the rounds of the two recoveries. -/
import Derived.Test.YtcipkfndnkmjlaaDoorP3
namespace Go.Proofs.YtcipkfndnkmjlaaDoor
set_option linter.unusedVariables false
set_option linter.unusedSimpArgs false

/-- The first space of a row, or its end. -/
theorem space_loop (a b : Int) (i : Nat) (L out : List (List UInt8)) (hi : i < L.length) (hr : (L.getD i default).length ≤ 2 ^ 40) :
    spec_l08Recover_loop1_ends (a, b, (i : Int), L, out) 0 = true ∧ ∃ m : Nat, spec_l08Recover_loop1 (a, b, (i : Int), L, out) 0 = (m : Int) ∧ m ≤ (L.getD i default).length ∧ 32 ∉ (L.getD i default).take m ∧ (m < (L.getD i default).length → (L.getD i default).getD m 0 = 32) := by
  obtain ⟨row, hrow⟩ : ∃ row, row = L.getD i default := ⟨_, rfl⟩
  rw [← hrow] at hr ⊢
  refine loop_post (step := spec_l08Recover_loop1_step (a, b, (i : Int), L, out)) (fun s => ∃ j : Nat, s = (j : Int) ∧ j ≤ row.length ∧ 32 ∉ row.take j) (fun s => row.length - s.toNat) (fun r => ∃ m : Nat, r = (m : Int) ∧ m ≤ row.length ∧ 32 ∉ row.take m ∧ (m < row.length → row.getD m 0 = 32)) ?_ 0 ⟨0, rfl, Nat.zero_le _, by simp⟩
  rintro s ⟨j, rfl, hj, hno⟩
  have e2 : decide (Int.toNat ((i : Nat) : Int) < L.length) = true := decide_eq_true (by omega)
  have e3 : decide (i < L.length) = true := decide_eq_true hi
  unfold spec_l08Recover_loop1_step
  rcases Nat.lt_or_ge j row.length with hlt | hge
  · cases hb : (((row.getD j 0).toNat : Int) != 32) with
    | true =>
      refine ⟨.inl ((j + 1 : Nat) : Int), [0, 1], ?_, ⟨j + 1, rfl, hlt, ?_⟩, ?_⟩
      · refine (DT.get_need (nat_in hi)).trans ((DT.get_need e2).trans ?_)
        simp only [Int.toNat_natCast, ← hrow]
        refine (DT.get_yes (nat_dec hlt)).trans ((DT.get_need (nat_in hi)).trans ((DT.get_need e3).trans ((DT.get_need (nat_in hlt)).trans ((DT.get_yes hb).trans ?_))))
        rw [DT.get_leaf, nat_next hlt (by omega)]
      · rw [List.take_succ_eq_append_getElem hlt]
        intro hm
        rcases List.mem_append.1 hm with h | h
        · exact hno h
        · have h := List.mem_singleton.1 h
          have hg : row.getD j 0 = row[j] := by rw [List.getD_eq_getElem?_getD, List.getElem?_eq_getElem hlt, Option.getD_some]
          rw [hg, ← h] at hb
          exact absurd hb (by decide)
      · show row.length - ((j + 1 : Nat) : Int).toNat < row.length - ((j : Nat) : Int).toNat
        rw [Int.toNat_natCast, Int.toNat_natCast]; omega
    | false =>
      refine ⟨.inr ((j : Nat) : Int), [0, 1], ?_, ⟨j, rfl, hj, hno, fun _ => ?_⟩⟩
      · refine (DT.get_need (nat_in hi)).trans ((DT.get_need e2).trans ?_)
        simp only [Int.toNat_natCast, ← hrow]
        exact (DT.get_yes (nat_dec hlt)).trans ((DT.get_need (nat_in hi)).trans ((DT.get_need e3).trans ((DT.get_need (nat_in hlt)).trans ((DT.get_no hb).trans rfl))))
      · have h := hb
        simp only [bne_eq_false_iff_eq] at h
        apply UInt8.toNat_inj.1
        show (row.getD j 0).toNat = 32
        omega
  · have he : j = row.length := Nat.le_antisymm hj hge
    refine ⟨.inr ((j : Nat) : Int), [0, 1], ?_, ⟨j, rfl, hj, hno, fun h => by omega⟩⟩
    refine (DT.get_need (nat_in hi)).trans ((DT.get_need e2).trans ?_)
    simp only [Int.toNat_natCast, ← hrow]
    rw [he]
    exact (DT.get_no nat_not).trans rfl

/-- A round. -/
noncomputable def recRound (L : List (List UInt8)) (chk n : Int) (i : Nat) (out : List (List UInt8)) : (Int × Int × Nat × List (List UInt8)) ⊕ (Int × List (List UInt8)) :=
  match decide (i < L.length) with
  | false => .inr (n, out)
  | true => match decide (Go.Lib.indexByte (L.getD i default) 32 < 0) with
    | true => .inr (n, out)
    | false => match (L.getD i default).take (Go.Lib.indexByte (L.getD i default) 32).toNat == Go.Lib.itoa (spec_l01Check chk ((L.getD i default).drop ((Go.Lib.indexByte (L.getD i default) 32).toNat + 1))) with
      | false => .inr (n, out)
      | true => .inl (spec_l01Check chk ((L.getD i default).drop ((Go.Lib.indexByte (L.getD i default) 32).toNat + 1)), n + ((L.getD i default).length : Int) + 1, i + 1, out ++ [(L.getD i default).drop ((Go.Lib.indexByte (L.getD i default) 32).toNat + 1)])

theorem dec_itoa (n : Int) (h0 : 0 ≤ n) (h1 : n < 65003) : spec_l01Dec_need n = true ∧ spec_l01Dec n = Go.Lib.itoa n ∧ impl_Decimal_need n = true ∧ impl_Decimal n = Go.Lib.itoa n := by
  obtain ⟨d1, d2, d3⟩ := dec_same n h0 h1
  exact ⟨d2, d3.symm.trans rfl, d1, rfl⟩

def specOut : (Int × Int × Nat × List (List UInt8)) ⊕ (Int × List (List UInt8)) → (Int × Int × Int × List (List UInt8)) ⊕ (Int × List (List UInt8))
  | .inl s => .inl (s.1, s.2.1, (s.2.2.1 : Int), s.2.2.2)
  | .inr r => .inr r
def implOut : (Int × Int × Nat × List (List UInt8)) ⊕ (Int × List (List UInt8)) → (Int × Int × List (List UInt8)) ⊕ (Int × List (List UInt8))
  | .inl s => .inl (s.1, s.2.1, s.2.2.2)
  | .inr r => .inr r

theorem spec_round (L : List (List UInt8)) (hL : L.length ≤ 2 ^ 40) (hrow : ∀ i, (L.getD i default).length ≤ 2 ^ 40) (chk n : Int) (hc0 : 0 ≤ chk) (hc1 : chk < 65003) (hn0 : 0 ≤ n) (hn1 : n ≤ 2 ^ 50) (i : Nat) (hi : i ≤ L.length) (out : List (List UInt8)) (ho : out.length ≤ 2 ^ 40) :
    ∃ fl, (spec_l08Recover_loop0_step L (chk, n, (i : Int), out)).get = some (specOut (recRound L chk n i out), fl) := by
  unfold spec_l08Recover_loop0_step recRound
  rcases Nat.lt_or_ge i L.length with hlt | hge
  · have e0 : decide (i < L.length) = true := decide_eq_true hlt
    have e2 : decide (Int.toNat ((i : Nat) : Int) < L.length) = true := decide_eq_true (by omega)
    obtain ⟨l1, m, l2, l3, l4, l5⟩ := space_loop chk n i L out hlt (hrow i)
    obtain ⟨row, hr⟩ : ∃ row, row = L.getD i default := ⟨_, rfl⟩
    have hrl := hrow i
    rw [← hr] at l3 l4 l5 hrl
    rw [e0]
    simp only [← hr]
    by_cases hs : 32 ∈ row
    · obtain ⟨m0, x1, x2, x3, x4⟩ := index_split 32 hs
      have hmm : m = m0 := by
        rcases Nat.lt_trichotomy m m0 with h | h | h
        · exfalso
          have h5 := l5 (by omega)
          refine x4 ?_
          have hg : row.getD m 0 = row[m]'(by omega) := by rw [List.getD_eq_getElem?_getD, List.getElem?_eq_getElem (by omega), Option.getD_some]
          rw [← h5, hg]
          have : (row.take m0)[m]'(by rw [List.length_take]; omega) = row[m]'(by omega) := List.getElem_take
          rw [← this]
          exact List.getElem_mem _
        · exact h
        · exfalso
          refine l4 ?_
          have hg : row[m0]'x2 = 32 := by
            have h6 : row[m0]? = some 32 := by
              rw [x3, List.getElem?_append_right (by rw [List.length_take]; omega), List.length_take, Nat.min_eq_left (by omega), Nat.sub_self]
              rfl
            rw [List.getElem?_eq_getElem x2] at h6
            exact Option.some.inj h6
          have : (row.take m)[m0]'(by rw [List.length_take]; omega) = row[m0]'x2 := List.getElem_take
          rw [← hg, ← this]
          exact List.getElem_mem _
      subst hmm
      have hneg : decide (((m : Nat) : Int) < 0) = false := decide_eq_false (by omega)
      rw [x1, hneg]
      simp only [Int.toNat_natCast]
      have ne : (((m : Nat) : Int) == ((row.length : Nat) : Int)) = false := by rw [beq_eq_false_iff_ne]; omega
      have w1 : IntKind.wrap .i64 ((m : Int) + 1) = ((m + 1 : Nat) : Int) := by rw [wrap_small (by omega) (by omega)]; omega
      obtain ⟨_, c2, _, c4, c5⟩ := check_same (row.drop (m + 1)) (by rw [List.length_drop]; omega) chk hc0 hc1
      obtain ⟨C, hC⟩ : ∃ C, C = spec_l01Check chk (row.drop (m + 1)) := ⟨_, rfl⟩
      rw [← hC] at c4 c5 ⊢
      obtain ⟨d1, d2, _, _⟩ := dec_itoa C c4 c5
      have head : ∀ {X}, (DT.ask (!(row.take m == Go.Lib.itoa C)) (.leaf (.inr (n, out), [1])) X : Round (Int × Int × Int × List (List UInt8)) (Int × List (List UInt8))).get = (DT.ask (!(row.take m == Go.Lib.itoa C)) (.leaf (.inr (n, out), [1])) X).get := rfl
      cases hq : (row.take m == Go.Lib.itoa C) with
      | false =>
        refine ⟨[1], ?_⟩
        refine (DT.get_yes (nat_dec hlt)).trans ((DT.get_need l1).trans ((DT.get_need (nat_in hlt)).trans ((DT.get_need e2).trans ?_)))
        simp only [Int.toNat_natCast, l2, ← hr]
        refine (DT.get_no ne).trans ((DT.get_need (nat_in hlt)).trans ((DT.get_need e0).trans ?_))
        simp only [w1, Int.toNat_natCast, List.take_length]
        refine (DT.get_need (bound2 (by omega))).trans ((DT.get_need c2).trans ((DT.get_need (nat_in hlt)).trans ((DT.get_need e0).trans ((DT.get_need (bound2 (by omega))).trans ?_))))
        simp only [← hC, d2, List.drop_zero, hq]
        exact (DT.get_need d1).trans ((DT.get_yes rfl).trans rfl)
      | true =>
        have gl : (decide ((out.length + [row.drop (m + 1)].length) * 16 ≤ 140737488355328) && decide (out.length + [row.drop (m + 1)].length ≤ 9223372036854775807)) = true := by
          show (decide ((out.length + 1) * 16 ≤ 140737488355328) && decide (out.length + 1 ≤ 9223372036854775807)) = true
          rw [decide_eq_true (by omega), decide_eq_true (by omega)]; rfl
        have w2 : IntKind.wrap .i64 (((row.length : Nat) : Int) + 1) = ((row.length : Nat) : Int) + 1 := wrap_small (by omega) (by omega)
        have w3 : IntKind.wrap .i64 (n + (((row.length : Nat) : Int) + 1)) = n + ((row.length : Nat) : Int) + 1 := by rw [wrap_small (by omega) (by omega)]; omega
        have w4 : IntKind.wrap .i64 ((i : Int) + 1) = ((i + 1 : Nat) : Int) := nat_next hlt (by omega)
        refine ⟨[0, 250], ?_⟩
        refine (DT.get_yes (nat_dec hlt)).trans ((DT.get_need l1).trans ((DT.get_need (nat_in hlt)).trans ((DT.get_need e2).trans ?_)))
        simp only [Int.toNat_natCast, l2, ← hr]
        refine (DT.get_no ne).trans ((DT.get_need (nat_in hlt)).trans ((DT.get_need e0).trans ?_))
        simp only [w1, Int.toNat_natCast, List.take_length]
        refine (DT.get_need (bound2 (by omega))).trans ((DT.get_need c2).trans ((DT.get_need (nat_in hlt)).trans ((DT.get_need e0).trans ((DT.get_need (bound2 (by omega))).trans ?_))))
        simp only [← hC, d2, List.drop_zero, hq, w2, w3, w4]
        exact (DT.get_need d1).trans ((DT.get_no rfl).trans ((DT.get_need gl).trans ((DT.get_need (nat_in hlt)).trans ((DT.get_need e0).trans rfl))))
    · have hm : m = row.length := by
        rcases Nat.lt_or_ge m row.length with h | h
        · exfalso
          have h5 := l5 h
          refine hs ?_
          have hg : row.getD m 0 = row[m] := by rw [List.getD_eq_getElem?_getD, List.getElem?_eq_getElem h, Option.getD_some]
          rw [← h5, hg]
          exact List.getElem_mem _
        · omega
      rw [index_none 32 hs]
      refine ⟨[1], ?_⟩
      refine (DT.get_yes (nat_dec hlt)).trans ((DT.get_need l1).trans ((DT.get_need (nat_in hlt)).trans ((DT.get_need e2).trans ?_)))
      simp only [Int.toNat_natCast, l2, ← hr, hm]
      exact (DT.get_yes (by simp)).trans rfl
  · have he : i = L.length := Nat.le_antisymm hi hge
    subst he
    rw [decide_eq_false (Nat.lt_irrefl _)]
    exact ⟨[1], (DT.get_no nat_not).trans rfl⟩

end Go.Proofs.YtcipkfndnkmjlaaDoor
