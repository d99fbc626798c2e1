/- Plain facts of a journal, part 1: checks, numerals, lines that hold the end of a line; what the program's journal is. -/
import Derived.Test.YtcipkfndnkmjlaaDoorGj
import Derived.Test.YtcipkfndnkmjlaaDoorEngX
import Derived.Lib.ItoaNum
namespace Go.Proofs.YtcipkfndnkmjlaaDoor
set_option linter.unusedVariables false
set_option linter.unusedSimpArgs false

theorem index_split (c : UInt8) : ∀ {s : List UInt8}, c ∈ s → ∃ m : Nat, Go.Lib.indexByte s c = (m : Int) ∧ m < s.length ∧ s = s.take m ++ c :: s.drop (m + 1) ∧ c ∉ s.take m
  | [], h => by cases h
  | b :: r, h => by
    cases hb : b == c with
    | true =>
      refine ⟨0, ?_, by simp, ?_, by simp⟩
      · unfold Go.Lib.indexByte
        rw [hb]
        rfl
      · have := eq_of_beq hb
        subst this
        rfl
    | false =>
      have hr : c ∈ r := by
        rcases List.mem_cons.1 h with e | e
        · rw [← e] at hb; simp at hb
        · exact e
      obtain ⟨m, h1, h2, h3, h4⟩ := index_split c hr
      refine ⟨m + 1, ?_, by simp; omega, ?_, ?_⟩
      · unfold Go.Lib.indexByte
        rw [hb, h1]
        have : ((m : Int) == -1) = false := by rw [beq_eq_false_iff_ne]; omega
        simp only [this, Bool.false_eq_true, if_false]
        omega
      · show b :: r = b :: (r.take m ++ c :: r.drop (m + 1))
        rw [← h3]
      · intro hm
        rcases List.mem_cons.1 hm with e | e
        · rw [← e] at hb; simp at hb
        · exact h4 e

theorem index_none (c : UInt8) : ∀ {s : List UInt8}, c ∉ s → Go.Lib.indexByte s c = -1
  | [], _ => rfl
  | b :: r, h => by
    have hb : (b == c) = false := by
      rw [beq_eq_false_iff_ne]
      exact fun e => h (by rw [e]; exact List.mem_cons_self ..)
    unfold Go.Lib.indexByte
    rw [hb, index_none c fun hr => h (List.mem_cons_of_mem _ hr)]
    rfl

theorem index10 (s : List UInt8) : internal_stringslite_Index_k10 s = Go.Lib.indexByte s 10 := by
  unfold internal_stringslite_Index_k10 internal_stringslite_Index_k10_tree
  simp only [DT.val]
  cases h : ([10] == s) with
  | true =>
    have h := eq_of_beq h
    subst h
    rfl
  | false => rfl
/-! ## Checks -/

theorem check_loops (l : List UInt8) : (∀ s, loopVal (impl_check_loop0_step (l, ((l.length : Nat) : Int))) s = loopVal (spec_l01Check_loop0_step l) s) ∧ ∀ s, loopEnds (impl_check_loop0_step (l, ((l.length : Nat) : Int))) s = loopEnds (spec_l01Check_loop0_step l) s :=
  loop_alike fun s => rfl

theorem check_loop (l : List UInt8) (hl : l.length ≤ 2 ^ 62) (n : Int) (hn0 : 0 ≤ n) (hn1 : n < 65003) : spec_l01Check_loop0_ends l (n, 0) = true ∧ 0 ≤ spec_l01Check_loop0 l (n, 0) ∧ spec_l01Check_loop0 l (n, 0) < 65003 := by
  refine loop_post (step := spec_l01Check_loop0_step l) (fun s => ∃ i : Nat, s.2 = (i : Int) ∧ i ≤ l.length ∧ 0 ≤ s.1 ∧ s.1 < 65003) (fun s => l.length - s.2.toNat) (fun r => 0 ≤ r ∧ r < 65003) ?_ (n, 0) ⟨0, rfl, Nat.zero_le _, hn0, hn1⟩
  rintro ⟨k, s⟩ ⟨i, hs, hi, h0, h1⟩
  simp only at hs h0 h1
  subst hs
  rcases Nat.lt_or_ge i l.length with hlt | hge
  · have hb : (l.getD i 0).toNat < 256 := (l.getD i 0).toNat_lt
    have w1 : IntKind.wrap .i64 (809 * k) = 809 * k := wrap_small (by omega) (by omega)
    have w2 : IntKind.wrap .i64 ((l.getD i 0).toNat : Int) = ((l.getD i 0).toNat : Int) := wrap_small (by omega) (by omega)
    have w3 : IntKind.wrap .i64 (809 * k + ((l.getD i 0).toNat : Int)) = 809 * k + ((l.getD i 0).toNat : Int) := wrap_small (by omega) (by omega)
    have w4 : IntKind.wrap .i64 (809 * k + ((l.getD i 0).toNat : Int) + 103) = 809 * k + ((l.getD i 0).toNat : Int) + 103 := wrap_small (by omega) (by omega)
    refine ⟨.inl (Int.tmod (809 * k + ((l.getD i 0).toNat : Int) + 103) 65003, ((i + 1 : Nat) : Int)), [], ?_, ⟨i + 1, rfl, hlt, ?_, ?_⟩, ?_⟩
    · unfold spec_l01Check_loop0_step
      simp only [DT.get, nat_dec hlt, nat_ge, Bool.and_self, Int.toNat_natCast, nat_next hlt hl, w1, w2, w3, w4]
    · show 0 ≤ Int.tmod _ _
      rw [Int.tmod_eq_emod_of_nonneg (by omega)]; omega
    · show Int.tmod _ _ < 65003
      rw [Int.tmod_eq_emod_of_nonneg (by omega)]; omega
    · show l.length - ((i + 1 : Nat) : Int).toNat < l.length - ((i : Nat) : Int).toNat
      rw [Int.toNat_natCast, Int.toNat_natCast]
      omega
  · have he : i = l.length := Nat.le_antisymm hi hge
    refine ⟨.inr k, [], ?_, h0, h1⟩
    unfold spec_l01Check_loop0_step
    simp only [DT.get, he, nat_not]

theorem check_same (l : List UInt8) (hl : l.length ≤ 2 ^ 62) (n : Int) (hn0 : 0 ≤ n) (hn1 : n < 65003) : impl_check_need n l = true ∧ spec_l01Check_need n l = true ∧ impl_check n l = spec_l01Check n l ∧ 0 ≤ spec_l01Check n l ∧ spec_l01Check n l < 65003 := by
  obtain ⟨h1, h2, h3⟩ := check_loop l hl n hn0 hn1
  have hi : impl_check_loop0_ends (l, ((l.length : Nat) : Int)) (n, 0) = true := ((check_loops l).2 (n, 0)).trans h1
  have hv : impl_check_loop0 (l, ((l.length : Nat) : Int)) (n, 0) = spec_l01Check_loop0 l (n, 0) := (check_loops l).1 (n, 0)
  have hs : spec_l01Check n l = spec_l01Check_loop0 l (n, 0) := rfl
  have hp : impl_check n l = impl_check_loop0 (l, ((l.length : Nat) : Int)) (n, 0) := rfl
  refine ⟨?_, ?_, by rw [hp, hs, hv], by rw [hs]; exact h2, by rw [hs]; exact h3⟩
  · unfold impl_check_need impl_check_tree
    simp only [DT.ok, hi]
  · unfold spec_l01Check_need spec_l01Check_tree
    simp only [DT.ok, h1]

/-! ## Numerals -/

theorem u8_wrap (n : Int) : IntKind.wrap .u8 n = n % 256 := rfl
theorem strOf_cons (x : Int) (l : List Int) : strOf (x :: l) = UInt8.ofNat x.toNat :: strOf l := rfl

/-- What is still to be written. -/
def todo (u : Nat) (out : List Int) : List UInt8 := match out with
  | [] => Go.Lib.decDigits u
  | _ :: _ => match u with
    | 0 => strOf out
    | v + 1 => Go.Lib.decDigits (v + 1) ++ strOf out

theorem todo_step (u : Nat) (out : List Int) (h : out = [] ∨ u ≠ 0) : todo (u / 10) (((48 + u % 10 : Nat) : Int) :: out) = todo u out := by
  have hl : todo u out = Go.Lib.decDigits u ++ strOf out := by
    cases out with
    | nil => simp [todo, strOf]
    | cons x r =>
      cases u with
      | zero => rcases h with h | h <;> simp at h
      | succ v => rfl
  rw [hl]
  by_cases h10 : u < 10
  · have h0 : u / 10 = 0 := by omega
    have hm : u % 10 = u := by omega
    rw [Go.Lib.decDigits_one h10, h0, hm]
    show strOf (((48 + u : Nat) : Int) :: out) = _
    rw [strOf_cons, Int.toNat_natCast]
    rfl
  · obtain ⟨v, hv⟩ : ∃ v, u / 10 = v + 1 := ⟨u / 10 - 1, by omega⟩
    rw [Go.Lib.decDigits, dif_neg h10, hv]
    show Go.Lib.decDigits (v + 1) ++ strOf (((48 + u % 10 : Nat) : Int) :: out) = _
    rw [strOf_cons, Int.toNat_natCast, List.append_assoc]
    rfl

theorem dec_loop (n : Nat) (hn : n < 65003) : spec_l01Dec_loop0_ends (n : Int) ((n : Int), []) = true ∧ strOf (spec_l01Dec_loop0 (n : Int) ((n : Int), [])) = Go.Lib.decDigits n := by
  refine loop_post (step := spec_l01Dec_loop0_step (n : Int)) (fun s => ∃ u : Nat, s.1 = (u : Int) ∧ u ≤ n ∧ s.2.length + u ≤ n + 1 ∧ todo u s.2 = Go.Lib.decDigits n) (fun s => s.1.toNat + (if s.2.length = 0 then 1 else 0)) (fun r => strOf r = Go.Lib.decDigits n) ?_ ((n : Int), []) ⟨n, rfl, Nat.le_refl _, by simp, rfl⟩
  rintro ⟨k, out⟩ ⟨u, hk, hu, hl, ht⟩
  simp only at hk hl ht
  subst hk
  have t1 : Int.tmod (u : Int) 10 = ((u % 10 : Nat) : Int) := by rw [Int.tmod_eq_emod_of_nonneg (by omega)]; omega
  have t2 : Int.tdiv (u : Int) 10 = ((u / 10 : Nat) : Int) := by rw [Int.tdiv_eq_ediv_of_nonneg (by omega)]; omega
  have w1 : IntKind.wrap .i64 (48 + ((u % 10 : Nat) : Int)) = ((48 + u % 10 : Nat) : Int) := by rw [wrap_small (by omega) (by omega)]; omega
  have w2 : IntKind.wrap .u8 ((48 + u % 10 : Nat) : Int) = ((48 + u % 10 : Nat) : Int) := by rw [u8_wrap]; omega
  have w3 : IntKind.wrap .i64 ((u / 10 : Nat) : Int) = ((u / 10 : Nat) : Int) := wrap_small (by omega) (by omega)
  have dneg : decide (((u % 10 : Nat) : Int) < 0) = false := decide_eq_false (by omega)
  have gl : (decide ((([((48 + u % 10 : Nat) : Int)] : List Int).length + out.length) * 1 ≤ 140737488355328) && decide (([((48 + u % 10 : Nat) : Int)] : List Int).length + out.length ≤ 9223372036854775807)) = true := by
    show (decide ((1 + out.length) * 1 ≤ 140737488355328) && decide (1 + out.length ≤ 9223372036854775807)) = true
    rw [decide_eq_true (by omega), decide_eq_true (by omega)]; rfl
  have next : (out = [] ∨ u ≠ 0) → (∃ v : Nat, (((u / 10 : Nat) : Int), ((48 + u % 10 : Nat) : Int) :: out).1 = (v : Int) ∧ v ≤ n ∧ (((u / 10 : Nat) : Int), ((48 + u % 10 : Nat) : Int) :: out).2.length + v ≤ n + 1 ∧ todo v (((u / 10 : Nat) : Int), ((48 + u % 10 : Nat) : Int) :: out).2 = Go.Lib.decDigits n) ∧ (((u / 10 : Nat) : Int), ((48 + u % 10 : Nat) : Int) :: out).1.toNat + (if (((u / 10 : Nat) : Int), ((48 + u % 10 : Nat) : Int) :: out).2.length = 0 then 1 else 0) < ((u : Nat) : Int).toNat + (if out.length = 0 then 1 else 0) := by
    intro h
    refine ⟨⟨u / 10, rfl, by omega, ?_, (todo_step u out h).trans ht⟩, ?_⟩
    · show out.length + 1 + u / 10 ≤ n + 1
      rcases h with h | h
      · rw [h]; simp; omega
      · omega
    · show (((u / 10 : Nat) : Int)).toNat + (if out.length + 1 = 0 then 1 else 0) < _
      rw [if_neg (by omega), Int.toNat_natCast, Int.toNat_natCast]
      rcases h with h | h
      · rw [h]; simp; omega
      · omega
  unfold spec_l01Dec_loop0_step
  cases out with
  | nil =>
    refine ⟨.inl (((u / 10 : Nat) : Int), [((48 + u % 10 : Nat) : Int)]), [137], ?_, next (.inl rfl)⟩
    refine (DT.get_yes rfl).trans (DT.get_skip.trans ?_)
    simp only [t1, t2, w1, w2, w3]
    refine (DT.get_no dneg).trans ((DT.get_need gl).trans (DT.get_skip.trans ?_))
    rfl
  | cons x r =>
    have e0 : ((((x :: r).length : Nat) : Int) == 0) = false := by rw [beq_eq_false_iff_ne]; simp; omega
    cases u with
    | zero =>
      refine ⟨.inr (x :: r), [0], (DT.get_no e0).trans ((DT.get_no rfl).trans rfl), ?_⟩
      exact ht
    | succ v =>
      have e1 : (((v + 1 : Nat) : Int) != 0) = true := by rw [bne_iff_ne]; omega
      refine ⟨.inl ((((v + 1) / 10 : Nat) : Int), ((48 + (v + 1) % 10 : Nat) : Int) :: x :: r), [137], ?_, next (.inr (by omega))⟩
      refine (DT.get_no e0).trans ((DT.get_yes e1).trans (DT.get_skip.trans ?_))
      simp only [t1, t2, w1, w2, w3]
      refine (DT.get_no dneg).trans ((DT.get_need gl).trans (DT.get_skip.trans ?_))
      rfl

theorem dec_same (n : Int) (h0 : 0 ≤ n) (h1 : n < 65003) : impl_Decimal_need n = true ∧ spec_l01Dec_need n = true ∧ impl_Decimal n = spec_l01Dec n := by
  obtain ⟨u, rfl⟩ : ∃ u : Nat, n = (u : Int) := ⟨n.toNat, by omega⟩
  obtain ⟨l1, l2⟩ := dec_loop u (by omega)
  have hneg : decide ((u : Int) < 0) = false := decide_eq_false (by omega)
  have hs : (spec_l01Dec_tree (u : Int)).get = some (Go.Lib.decDigits u) := by
    unfold spec_l01Dec_tree
    refine (DT.get_need l1).trans ((DT.get_no hneg).trans ?_)
    rw [DT.get_leaf, l2]
  obtain ⟨s1, s2⟩ := DT.of_get hs
  have hi : (impl_Decimal_tree (u : Int)).get = some (Go.Lib.decDigits u) := by
    unfold impl_Decimal_tree
    refine (DT.get_need (by rw [decide_eq_true (by omega), decide_eq_true (by omega)]; rfl)).trans ?_
    rw [DT.get_leaf]
    unfold Go.Lib.itoa
    rw [if_neg (by omega), Int.toNat_natCast]
  obtain ⟨i1, i2⟩ := DT.of_get hi
  exact ⟨i1, s1, i2.trans s2.symm⟩


theorem contains_eq (s : List UInt8) : strings_Contains_k10 s = s.contains 10 := by
  have e : strings_Index_k10 s = Go.Lib.indexByte s 10 := index10 s
  show decide (strings_Index_k10 s ≥ 0) = _
  rw [e]
  by_cases h : (10 : UInt8) ∈ s
  · obtain ⟨m, hm, _⟩ := index_split 10 h
    rw [hm, List.contains_iff_mem.2 h]
    exact decide_eq_true (by omega)
  · have hf : s.contains 10 = false := by
      rw [Bool.eq_false_iff]
      exact fun hc => h (List.contains_iff_mem.1 hc)
    rw [index_none 10 h, hf]
    rfl

theorem digits_len : ∀ (n : Nat), 1 ≤ (Go.Lib.decDigits n).length ∧ (Go.Lib.decDigits n).length ≤ n + 1 := by
  intro n
  induction n using Nat.strongRecOn with
  | _ n ih =>
    unfold Go.Lib.decDigits
    split
    · simp
    · obtain ⟨_, h⟩ := ih (n / 10) (by omega)
      rw [List.length_append, List.length_singleton]
      omega

theorem decimal_len (n : Int) (h0 : 0 ≤ n) (h1 : n < 65003) : 1 ≤ (impl_Decimal n).length ∧ (impl_Decimal n).length ≤ 65003 := by
  have e : impl_Decimal n = Go.Lib.itoa n := rfl
  rw [e]
  unfold Go.Lib.itoa
  rw [if_neg (by omega)]
  obtain ⟨a, b⟩ := digits_len n.toNat
  omega

/-- A line that a memory can hold. -/
def shortL (l : List UInt8) : Bool := decide (l.length ≤ 1099511627776)

/-- One line of a journal. -/
noncomputable def lineJ (n : Int) (l : List UInt8) : List UInt8 := ((impl_Decimal n ++ [32]) ++ l) ++ [10]

/-- The program's journal. -/
noncomputable def jrun : List (List UInt8) → Int → List UInt8 → List UInt8 × Bool
  | [], _, t => match decide (16000 < t.length) with
    | true => ([], false)
    | false => (t, true)
  | l :: r, n, t => match l.contains 10 with
    | true => ([], false)
    | false => match decide (16000 < t.length + l.length) with
      | true => ([], false)
      | false => jrun r (impl_check n l) (t ++ lineJ (impl_check n l) l)

theorem lineJ_len (n : Int) (l : List UInt8) : (lineJ n l).length = (impl_Decimal n).length + l.length + 2 := by
  unfold lineJ
  simp only [List.length_append, List.length_singleton]
  omega

end Go.Proofs.YtcipkfndnkmjlaaDoor
