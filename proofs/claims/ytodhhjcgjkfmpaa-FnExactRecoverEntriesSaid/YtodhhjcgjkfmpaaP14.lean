/- Plain law, part 14: checks and stores of entries: the program's and the reference's. -/
import Derived.Test.YtodhhjcgjkfmpaaP13
namespace Go.Proofs.Ytodhhjcgjkfmpaa
set_option linter.unusedVariables false
set_option linter.unusedSimpArgs false

theorem check_loops (l : List UInt8) : (∀ s, loopVal (impl_check_loop0_step (l, ((l.length : Nat) : Int))) s = loopVal (spec_l01Check_loop0_step l) s) ∧ ∀ s, loopEnds (impl_check_loop0_step (l, ((l.length : Nat) : Int))) s = loopEnds (spec_l01Check_loop0_step l) s :=
  loop_alike fun s => rfl

theorem check_loop (l : List UInt8) (hl : l.length ≤ 2 ^ 62) : spec_l01Check_loop0_ends l (0, 0) = true ∧ 0 ≤ spec_l01Check_loop0 l (0, 0) ∧ spec_l01Check_loop0 l (0, 0) < 65003 := by
  refine loop_post (step := spec_l01Check_loop0_step l) (fun s => ∃ i : Nat, s.2 = (i : Int) ∧ i ≤ l.length ∧ 0 ≤ s.1 ∧ s.1 < 65003) (fun s => l.length - s.2.toNat) (fun r => 0 ≤ r ∧ r < 65003) ?_ (0, 0) ⟨0, rfl, Nat.zero_le _, by decide, by decide⟩
  rintro ⟨k, s⟩ ⟨i, hs, hi, h0, h1⟩
  simp only at hs h0 h1
  subst hs
  rcases Nat.lt_or_ge i l.length with hlt | hge
  · have hb : (l.getD i 0).toNat < 256 := (l.getD i 0).toNat_lt
    have w1 : IntKind.wrap .i64 (809 * k) = 809 * k := wrap_small (by omega) (by omega)
    have w2 : IntKind.wrap .i64 ((l.getD i 0).toNat : Int) = ((l.getD i 0).toNat : Int) := wrap_small (by omega) (by omega)
    have w3 : IntKind.wrap .i64 (809 * k + ((l.getD i 0).toNat : Int)) = 809 * k + ((l.getD i 0).toNat : Int) := wrap_small (by omega) (by omega)
    have w4 : IntKind.wrap .i64 (809 * k + ((l.getD i 0).toNat : Int) + 103) = 809 * k + ((l.getD i 0).toNat : Int) + 103 := wrap_small (by omega) (by omega)
    refine ⟨.inl (Int.tmod (809 * k + ((l.getD i 0).toNat : Int) + 103) 65003, ((i + 1 : Nat) : Int)), [], ?_, ⟨i + 1, rfl, hlt, ?_, ?_⟩, ?_⟩
    · unfold spec_l01Check_loop0_step
      simp only [DT.get, nat_dec hlt, nat_ge, Bool.and_self, Int.toNat_natCast, nat_next hlt hl, w1, w2, w3, w4]
    · show 0 ≤ Int.tmod _ _
      rw [Int.tmod_eq_emod_of_nonneg (by omega)]; omega
    · show Int.tmod _ _ < 65003
      rw [Int.tmod_eq_emod_of_nonneg (by omega)]; omega
    · show l.length - ((i + 1 : Nat) : Int).toNat < l.length - ((i : Nat) : Int).toNat
      rw [Int.toNat_natCast, Int.toNat_natCast]
      omega
  · have he : i = l.length := Nat.le_antisymm hi hge
    refine ⟨.inr k, [], ?_, h0, h1⟩
    unfold spec_l01Check_loop0_step
    simp only [DT.get, he, nat_not]

theorem check_same (l : List UInt8) (hl : l.length ≤ 2 ^ 62) : impl_check_need 0 l = true ∧ spec_l01Check_need 0 l = true ∧ impl_check 0 l = spec_l01Check 0 l ∧ 0 ≤ spec_l01Check 0 l ∧ spec_l01Check 0 l < 65003 := by
  obtain ⟨h1, h2, h3⟩ := check_loop l hl
  have hi : impl_check_loop0_ends (l, ((l.length : Nat) : Int)) (0, 0) = true := ((check_loops l).2 (0, 0)).trans h1
  have hv : impl_check_loop0 (l, ((l.length : Nat) : Int)) (0, 0) = spec_l01Check_loop0 l (0, 0) := (check_loops l).1 (0, 0)
  have hs : spec_l01Check 0 l = spec_l01Check_loop0 l (0, 0) := rfl
  have hp : impl_check 0 l = impl_check_loop0 (l, ((l.length : Nat) : Int)) (0, 0) := rfl
  refine ⟨?_, ?_, by rw [hp, hs, hv], by rw [hs]; exact h2, by rw [hs]; exact h3⟩
  · unfold impl_check_need impl_check_tree
    simp only [DT.ok, hi]
  · unfold spec_l01Check_need spec_l01Check_tree
    simp only [DT.ok, h1]

theorem u8_wrap (n : Int) : IntKind.wrap .u8 n = n % 256 := rfl

theorem bits_eq (x : Nat) : impl_BitsOf_need x = true ∧ spec_l01Bits_need x = true ∧ impl_BitsOf x = spec_l01Bits x ∧ (x < 2 ^ 32 → 0 ≤ spec_l01Bits x ∧ spec_l01Bits x < 2 ^ 32) := by
  have h : impl_BitsOf_tree x = spec_l01Bits_tree x := rfl
  have h2 : spec_l01Bits_need x = true ∧ (x < 2 ^ 32 → 0 ≤ spec_l01Bits x ∧ spec_l01Bits x < 2 ^ 32) := by
    unfold spec_l01Bits_need spec_l01Bits spec_l01Bits_tree
    simp only [fne_self]
    cases isNaN .f32 x with
    | true => exact ⟨rfl, fun _ => by simp only [DT.val]; decide⟩
    | false =>
      refine ⟨rfl, fun hx => ?_⟩
      simp only [DT.val]
      rw [wrap_small (by omega) (by omega)]
      omega
  refine ⟨?_, h2.1, ?_, h2.2⟩
  · unfold impl_BitsOf_need
    rw [h]
    exact h2.1
  · unfold impl_BitsOf spec_l01Bits
    rw [h]

/-- The bytes of a number. -/
def fourP (x : Nat) : List Int := [IntKind.wrap .u8 (spec_l01Bits x), IntKind.wrap .u8 (Int.fdiv (spec_l01Bits x) (2 ^ (min (Int.toNat 8) (IntKind.bits .i64)))), IntKind.wrap .u8 (Int.fdiv (spec_l01Bits x) (2 ^ (min (Int.toNat 16) (IntKind.bits .i64)))), IntKind.wrap .u8 (Int.fdiv (spec_l01Bits x) (2 ^ (min (Int.toNat 24) (IntKind.bits .i64))))]

theorem four_eq (x : Nat) (hx : x < 2 ^ 32) : spec_l07Four_need x = true ∧ spec_l07Four x = fourP x := by
  obtain ⟨_, h1, _, h2⟩ := bits_eq x
  obtain ⟨h2, h3⟩ := h2 hx
  unfold spec_l07Four_need spec_l07Four spec_l07Four_tree fourP
  generalize spec_l01Bits x = n at h2 h3
  have e8 : (2 : Int) ^ (min (Int.toNat 8) (IntKind.bits .i64)) = 256 := by decide
  have e16 : (2 : Int) ^ (min (Int.toNat 16) (IntKind.bits .i64)) = 65536 := by decide
  have e24 : (2 : Int) ^ (min (Int.toNat 24) (IntKind.bits .i64)) = 16777216 := by decide
  have t1 : Int.tmod n 256 = n % 256 := Int.tmod_eq_emod_of_nonneg h2
  have d1 : Int.tdiv n 256 = n / 256 := Int.tdiv_eq_ediv_of_nonneg h2
  have d2 : Int.tdiv n 65536 = n / 65536 := Int.tdiv_eq_ediv_of_nonneg h2
  have d3 : Int.tdiv n 16777216 = n / 16777216 := Int.tdiv_eq_ediv_of_nonneg h2
  have w1 : IntKind.wrap .i64 (n / 256) = n / 256 := wrap_small (by omega) (by omega)
  have w2 : IntKind.wrap .i64 (n / 65536) = n / 65536 := wrap_small (by omega) (by omega)
  have w3 : IntKind.wrap .i64 (n / 16777216) = n / 16777216 := wrap_small (by omega) (by omega)
  have t2 : Int.tmod (n / 256) 256 = n / 256 % 256 := Int.tmod_eq_emod_of_nonneg (by omega)
  have t3 : Int.tmod (n / 65536) 256 = n / 65536 % 256 := Int.tmod_eq_emod_of_nonneg (by omega)
  have f1 : Int.fdiv n 256 = n / 256 := Int.fdiv_eq_ediv_of_nonneg n (by omega)
  have f2 : Int.fdiv n 65536 = n / 65536 := Int.fdiv_eq_ediv_of_nonneg n (by omega)
  have f3 : Int.fdiv n 16777216 = n / 16777216 := Int.fdiv_eq_ediv_of_nonneg n (by omega)
  simp only [DT.ok, DT.val, h1, e8, e16, e24, t1, d1, d2, d3, w1, w2, w3, t2, t3, f1, f2, f3, u8_wrap]
  refine ⟨trivial, ?_⟩
  congr 1
  · omega
  · congr 1
    · omega
    · congr 1
      omega

/-- The rounds of a store. -/
def storeRound (xs : List Nat) (s : Int × List Int) : (Int × List Int) ⊕ List Int := match decide (s.1 < ((xs.length : Nat) : Int)) with
  | true => .inl (IntKind.wrap .i64 (s.1 + 1), s.2 ++ fourP (xs.getD (Int.toNat s.1) default))
  | false => .inr s.2

theorem store_round (xs : List Nat) (hx : ∀ x ∈ xs, x < 2 ^ 32) (hl : xs.length ≤ 2 ^ 20) (s : Int × List Int) (i : Nat) (hs : s.1 = (i : Int)) (hi : i ≤ xs.length) (hc : s.2.length ≤ 2 ^ 40) :
    (∃ fl, (impl_storeEntry_loop0_step (((xs.length : Nat) : Int), xs) s).get = some (storeRound xs s, fl)) ∧ ∃ fl, (spec_l07Store_loop0_step (((xs.length : Nat) : Int), xs) s).get = some (storeRound xs s, fl) := by
  obtain ⟨k, acc⟩ := s
  simp only at hs hc
  subst hs
  rcases Nat.lt_or_ge i xs.length with hlt | hge
  · have hin2 : decide (Int.toNat ((i : Nat) : Int) < xs.length) = true := decide_eq_true (by omega)
    have hin3 : decide (i < xs.length) = true := decide_eq_true hlt
    have hm : xs.getD i default < 2 ^ 32 := by
      rw [List.getD_eq_getElem?_getD, List.getElem?_eq_getElem hlt, Option.getD_some]
      exact hx _ (List.getElem_mem hlt)
    obtain ⟨b1, b2, b3, _⟩ := bits_eq (xs.getD i default)
    obtain ⟨f1, f2⟩ := four_eq (xs.getD i default) hm
    have hf : (fourP (xs.getD i default)).length = 4 := rfl
    have g1 : decide ((acc.length + 4) * 1 ≤ 140737488355328) = true := decide_eq_true (by omega)
    have g2 : decide (acc.length + 4 ≤ 9223372036854775807) = true := decide_eq_true (by omega)
    have hr : storeRound xs ((i : Int), acc) = .inl (((i + 1 : Nat) : Int), acc ++ fourP (xs.getD i default)) := by
      unfold storeRound
      simp only [nat_dec hlt, Int.toNat_natCast, nat_next hlt (by omega)]
    rw [hr]
    refine ⟨⟨[162, 1], ?_⟩, ⟨[74, 1], ?_⟩⟩
    · have hb : [IntKind.wrap .u8 (spec_l01Bits (xs.getD i default)), IntKind.wrap .u8 (Int.fdiv (spec_l01Bits (xs.getD i default)) (2 ^ (min (Int.toNat 8) (IntKind.bits .i64)))), IntKind.wrap .u8 (Int.fdiv (spec_l01Bits (xs.getD i default)) (2 ^ (min (Int.toNat 16) (IntKind.bits .i64)))), IntKind.wrap .u8 (Int.fdiv (spec_l01Bits (xs.getD i default)) (2 ^ (min (Int.toNat 24) (IntKind.bits .i64))))] = fourP (xs.getD i default) := rfl
      unfold impl_storeEntry_loop0_step
      refine (DT.get_yes (nat_dec hlt)).trans ((DT.get_need (nat_in hlt)).trans ((DT.get_need hin2).trans ((DT.get_need b1).trans ?_)))
      show (DT.skip _).get = _
      simp only [DT.get_skip, Int.toNat_natCast, b3, hb, hf]
      refine (DT.get_need (by rw [g1, g2]; rfl)).trans ?_
      simp only [DT.get, nat_next hlt (show xs.length ≤ 2 ^ 62 by omega)]
    · unfold spec_l07Store_loop0_step
      refine (DT.get_yes (nat_dec hlt)).trans ((DT.get_need (nat_in hlt)).trans ((DT.get_need hin2).trans ?_))
      simp only [Int.toNat_natCast, f1, f2, hf]
      refine (DT.get_need rfl).trans ((DT.get_need (by rw [g1, g2]; rfl)).trans ?_)
      simp only [DT.get, nat_next hlt (show xs.length ≤ 2 ^ 62 by omega)]
  · have he : i = xs.length := Nat.le_antisymm hi hge
    subst he
    have hr : storeRound xs (((xs.length : Nat) : Int), acc) = .inr acc := by
      unfold storeRound
      simp only [nat_not]
    rw [hr]
    refine ⟨⟨[0], ?_⟩, ⟨[0], ?_⟩⟩
    · unfold impl_storeEntry_loop0_step
      simp only [DT.get, nat_not]
    · unfold spec_l07Store_loop0_step
      simp only [DT.get, nat_not]

theorem store_loops (xs : List Nat) (hx : ∀ x ∈ xs, x < 2 ^ 32) (hl : xs.length ≤ 2 ^ 20) (acc : List Int) (hc : acc.length ≤ 2 ^ 30) :
    spec_l07Store_loop0_ends (((xs.length : Nat) : Int), xs) (0, acc) = true ∧ (spec_l07Store_loop0 (((xs.length : Nat) : Int), xs) (0, acc)).length ≤ 2 ^ 40 ∧ impl_storeEntry_loop0_ends (((xs.length : Nat) : Int), xs) (0, acc) = true ∧ impl_storeEntry_loop0 (((xs.length : Nat) : Int), xs) (0, acc) = spec_l07Store_loop0 (((xs.length : Nat) : Int), xs) (0, acc) := by
  have hinv : ∀ s : Int × List Int, (∃ i : Nat, s.1 = (i : Int) ∧ i ≤ xs.length ∧ s.2.length = acc.length + 4 * i) → (match storeRound xs s with
      | .inl s' => (∃ i : Nat, s'.1 = (i : Int) ∧ i ≤ xs.length ∧ s'.2.length = acc.length + 4 * i) ∧ xs.length - s'.1.toNat < xs.length - s.1.toNat
      | .inr r => r.length ≤ 2 ^ 40) := by
    rintro ⟨k, a⟩ ⟨i, hs, hi, hc'⟩
    simp only at hs hc'
    subst hs
    rcases Nat.lt_or_ge i xs.length with hlt | hge
    · have hr : storeRound xs ((i : Int), a) = .inl (((i + 1 : Nat) : Int), a ++ fourP (xs.getD i default)) := by
        unfold storeRound
        simp only [nat_dec hlt, Int.toNat_natCast, nat_next hlt (by omega)]
      rw [hr]
      refine ⟨⟨i + 1, rfl, hlt, ?_⟩, ?_⟩
      · show (a ++ fourP _).length = _
        rw [List.length_append, hc']
        show _ + 4 = _
        omega
      · show xs.length - ((i + 1 : Nat) : Int).toNat < xs.length - ((i : Nat) : Int).toNat
        rw [Int.toNat_natCast, Int.toNat_natCast]
        omega
    · have he : i = xs.length := Nat.le_antisymm hi hge
      subst he
      have hr : storeRound xs (((xs.length : Nat) : Int), a) = .inr a := by
        unfold storeRound
        simp only [nat_not]
      rw [hr]
      show a.length ≤ 2 ^ 40
      omega
  have h0 : ∃ i : Nat, ((0 : Int), acc).1 = (i : Int) ∧ i ≤ xs.length ∧ ((0 : Int), acc).2.length = acc.length + 4 * i := ⟨0, rfl, Nat.zero_le _, rfl⟩
  obtain ⟨h1, h2⟩ := loop_post (step := spec_l07Store_loop0_step (((xs.length : Nat) : Int), xs)) (fun s => ∃ i : Nat, s.1 = (i : Int) ∧ i ≤ xs.length ∧ s.2.length = acc.length + 4 * i) (fun s => xs.length - s.1.toNat) (fun r => r.length ≤ 2 ^ 40) (fun s hs => by
    obtain ⟨i, hi1, hi2, hi3⟩ := hs
    obtain ⟨_, fl, hfl⟩ := store_round xs hx hl s i hi1 hi2 (by omega)
    exact ⟨_, fl, hfl, by have h := hinv s ⟨i, hi1, hi2, hi3⟩; revert h; cases storeRound xs s <;> exact fun h => h⟩) (0, acc) h0
  obtain ⟨h3, h4⟩ := val_rel (step := spec_l07Store_loop0_step (((xs.length : Nat) : Int), xs)) (step' := impl_storeEntry_loop0_step (((xs.length : Nat) : Int), xs)) (fun s s' => s = s' ∧ ∃ i : Nat, s.1 = (i : Int) ∧ i ≤ xs.length ∧ s.2.length = acc.length + 4 * i) (fun r r' => r = r') (fun s s' hR o fl ho => by
    obtain ⟨rfl, i, hi1, hi2, hi3⟩ := hR
    obtain ⟨⟨fl1, hf1⟩, fl2, hf2⟩ := store_round xs hx hl s i hi1 hi2 (by omega)
    rw [hf2] at ho
    cases ho
    refine ⟨_, fl1, hf1, ?_⟩
    have := hinv s ⟨i, hi1, hi2, hi3⟩
    cases hq : storeRound xs s with
    | inl t => rw [hq] at this; exact ⟨rfl, this.1⟩
    | inr r => exact rfl) (s := (0, acc)) (s' := (0, acc)) ⟨rfl, h0⟩ h1
  exact ⟨h1, h2, h3, h4.symm⟩

/-- The numbers of an entry are words. -/
def wordsE (e : Entry) : Prop := e.Mass < 2 ^ 32 ∧ e.Orb.Long < 2 ^ 32 ∧ e.Orb.Round < 2 ^ 32 ∧ e.Orb.Tilt < 2 ^ 32 ∧ e.Orb.Node < 2 ^ 32 ∧ e.Orb.Peri < 2 ^ 32 ∧ e.Orb.Phase < 2 ^ 32

theorem strOf_length (xs : List Int) : (strOf xs).length = xs.length := List.length_map (α := Int) _
theorem u8i_length (l : List UInt8) : (u8i l).length = l.length := List.length_map (β := Int) _

theorem tail_same {n : Int} (h0 : 0 ≤ n) (h1 : n < 65003) : [IntKind.wrap .u8 n, IntKind.wrap .u8 (Int.fdiv n (2 ^ (min (Int.toNat 8) (IntKind.bits .i64))))] = [IntKind.wrap .u8 (Int.tmod n 256), IntKind.wrap .u8 (IntKind.wrap .i64 (Int.tdiv n 256))] := by
  have e8 : (2 : Int) ^ (min (Int.toNat 8) (IntKind.bits .i64)) = 256 := by decide
  rw [e8, Int.tmod_eq_emod_of_nonneg h0, Int.tdiv_eq_ediv_of_nonneg h0, Int.fdiv_eq_ediv_of_nonneg n (by omega), wrap_small (n := n / 256) (by omega) (by omega)]
  simp only [u8_wrap]
  congr 1
  omega

theorem store_same (e : Entry) (hw : wordsE e) (hl : e.Name.length ≤ 2 ^ 20) : impl_storeEntry_need e = true ∧ spec_l07Store_need e = true ∧ impl_storeEntry e = spec_l07Store e := by
  obtain ⟨w1, w2, w3, w4, w5, w6, w7⟩ := hw
  have hx : ∀ x ∈ [e.Mass, e.Orb.Long, e.Orb.Round, e.Orb.Tilt, e.Orb.Node, e.Orb.Peri, e.Orb.Phase], x < 2 ^ 32 := by
    intro x hx
    simp only [List.mem_cons, List.not_mem_nil, or_false] at hx
    rcases hx with rfl | rfl | rfl | rfl | rfl | rfl | rfl <;> assumption
  obtain ⟨acc, hacc⟩ : ∃ acc : List Int, acc = [79, 82, 66, 49] ++ [IntKind.wrap .u8 ((e.Name.length : Nat) : Int)] ++ u8i e.Name := ⟨_, rfl⟩
  have hal : acc.length = 5 + e.Name.length := by rw [hacc, List.length_append, u8i_length]; rfl
  obtain ⟨s1, s2, s3, s4⟩ := store_loops [e.Mass, e.Orb.Long, e.Orb.Round, e.Orb.Tilt, e.Orb.Node, e.Orb.Peri, e.Orb.Phase] hx (by show 7 ≤ _; decide) acc (by omega)
  obtain ⟨R, hR⟩ : ∃ R, R = spec_l07Store_loop0 ((([e.Mass, e.Orb.Long, e.Orb.Round, e.Orb.Tilt, e.Orb.Node, e.Orb.Peri, e.Orb.Phase].length : Nat) : Int), [e.Mass, e.Orb.Long, e.Orb.Round, e.Orb.Tilt, e.Orb.Node, e.Orb.Peri, e.Orb.Phase]) (0, acc) := ⟨_, rfl⟩
  rw [← hR] at s2 s4
  obtain ⟨c1, c2, c3, c4, c5⟩ := check_same (strOf R) (by rw [strOf_length]; omega)
  have hg1 : (decide ((([79, 82, 66, 49] ++ [IntKind.wrap .u8 ((e.Name.length : Nat) : Int)] : List Int).length + (u8i e.Name).length) * 1 ≤ 140737488355328) && decide (([79, 82, 66, 49] ++ [IntKind.wrap .u8 ((e.Name.length : Nat) : Int)] : List Int).length + (u8i e.Name).length ≤ 9223372036854775807)) = true := by
    rw [u8i_length]
    show (decide ((5 + e.Name.length) * 1 ≤ 140737488355328) && decide (5 + e.Name.length ≤ 9223372036854775807)) = true
    rw [decide_eq_true (by omega), decide_eq_true (by omega)]; rfl
  have hg2 : ∀ a b : Int, (decide ((R.length + [a, b].length) * 1 ≤ 140737488355328) && decide (R.length + [a, b].length ≤ 9223372036854775807)) = true := by
    intro a b
    show (decide ((R.length + 2) * 1 ≤ 140737488355328) && decide (R.length + 2 ≤ 9223372036854775807)) = true
    rw [decide_eq_true (by omega), decide_eq_true (by omega)]; rfl
  have key1 : (spec_l07Store_tree e).get = some (strOf (R ++ [IntKind.wrap .u8 (Int.tmod (spec_l01Check 0 (strOf R)) 256), IntKind.wrap .u8 (IntKind.wrap .i64 (Int.tdiv (spec_l01Check 0 (strOf R)) 256))])) := by
    unfold spec_l07Store_tree
    refine DT.get_skip.trans (DT.get_skip.trans ((DT.get_need (decide_eq_true (by omega))).trans ((DT.get_need hg1).trans ?_)))
    have hn : spec_l07Numbers (⟨e.Name, e.Mass, ⟨e.Orb.Long, e.Orb.Round, e.Orb.Tilt, e.Orb.Node, e.Orb.Peri, e.Orb.Phase⟩⟩ : Entry) = [e.Mass, e.Orb.Long, e.Orb.Round, e.Orb.Tilt, e.Orb.Node, e.Orb.Peri, e.Orb.Phase] := rfl
    simp only [hn, ← hacc]
    refine (DT.get_need s1).trans ?_
    simp only [← hR]
    refine (DT.get_need c2).trans ?_
    refine DT.get_skip.trans (DT.get_skip.trans ?_)
    exact (DT.get_need (hg2 _ _)).trans rfl
  have key2 : (impl_storeEntry_tree e).get = some (strOf (R ++ [IntKind.wrap .u8 (Int.tmod (spec_l01Check 0 (strOf R)) 256), IntKind.wrap .u8 (IntKind.wrap .i64 (Int.tdiv (spec_l01Check 0 (strOf R)) 256))])) := by
    unfold impl_storeEntry_tree
    refine DT.get_skip.trans (DT.get_skip.trans ((DT.get_need hg1).trans ?_))
    have hn : impl_Orbit_numbers (⟨e.Orb.Long, e.Orb.Round, e.Orb.Tilt, e.Orb.Node, e.Orb.Peri, e.Orb.Phase⟩ : Orbit) = [e.Orb.Long, e.Orb.Round, e.Orb.Tilt, e.Orb.Node, e.Orb.Peri, e.Orb.Phase] := rfl
    have hn2 : [e.Mass] ++ [e.Orb.Long, e.Orb.Round, e.Orb.Tilt, e.Orb.Node, e.Orb.Peri, e.Orb.Phase] = [e.Mass, e.Orb.Long, e.Orb.Round, e.Orb.Tilt, e.Orb.Node, e.Orb.Peri, e.Orb.Phase] := rfl
    simp only [hn, hn2, ← hacc]
    refine (DT.get_need rfl).trans ((DT.get_need s3).trans ?_)
    simp only [s4]
    refine (DT.get_need c1).trans ?_
    simp only [c3]
    refine DT.get_skip.trans ((DT.get_need (hg2 _ _)).trans ?_)
    rw [tail_same c4 c5]
    rfl
  obtain ⟨a1, a2⟩ := DT.of_get key1
  obtain ⟨b1, b2⟩ := DT.of_get key2
  exact ⟨b1, a1, b2.trans a2.symm⟩

end Go.Proofs.Ytodhhjcgjkfmpaa
