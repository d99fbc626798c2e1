/- Plain law of RecoverJournal, part 1: parts of a text, first places, checks, numerals. -/
import Derived.Test.YtcipkfndnkmjlaaDoorG2
import Derived.Test.YtcipkfndnkmjlaaDoorEngX
import Derived.Lib.ItoaNum
namespace Go.Proofs.YtcipkfndnkmjlaaDoor
set_option linter.unusedVariables false
set_option linter.unusedSimpArgs false

def cuts : List UInt8 → List (List UInt8)
  | [] => [[]]
  | b :: r => match b == 10 with
    | true => [] :: cuts r
    | false => match cuts r with
      | [] => [[b]]
      | c :: cs => (b :: c) :: cs

theorem cuts_len : ∀ s : List UInt8, (cuts s).length = s.count 10 + 1
  | [] => rfl
  | b :: r => by
    have ih := cuts_len r
    unfold cuts
    rw [List.count_cons]
    cases hb : b == 10 with
    | true => simp only [List.length_cons, ih, if_true]
    | false =>
      simp only
      cases hc : cuts r with
      | nil => rw [hc] at ih; simp at ih
      | cons c cs => rw [hc] at ih; simp only [List.length_cons] at ih ⊢; simpa using ih

theorem cuts_pure : ∀ {s : List UInt8}, 10 ∉ s → cuts s = [s]
  | [], _ => rfl
  | b :: r, h => by
    have hb : (b == 10) = false := by
      rw [beq_eq_false_iff_ne]
      exact fun e => h (by rw [e]; exact List.mem_cons_self ..)
    unfold cuts
    rw [hb, cuts_pure fun hr => h (List.mem_cons_of_mem _ hr)]

theorem cuts_app : ∀ {c : List UInt8} (r : List UInt8), 10 ∉ c → cuts (c ++ 10 :: r) = c :: cuts r
  | [], r, _ => rfl
  | b :: c, r, h => by
    have hb : (b == 10) = false := by
      rw [beq_eq_false_iff_ne]
      exact fun e => h (by rw [e]; exact List.mem_cons_self ..)
    show cuts (b :: (c ++ 10 :: r)) = _
    rw [cuts, hb, cuts_app r fun hr => h (List.mem_cons_of_mem _ hr)]

theorem index_cut : ∀ {s : List UInt8}, 10 ∈ s → ∃ m : Nat, Go.Lib.indexByte s 10 = (m : Int) ∧ m < s.length ∧ cuts s = s.take m :: cuts (s.drop (m + 1))
  | [], h => by cases h
  | b :: r, h => by
    cases hb : b == 10 with
    | true =>
      refine ⟨0, ?_, by simp, ?_⟩
      · unfold Go.Lib.indexByte
        rw [hb]
        rfl
      · show cuts (b :: r) = _
        rw [cuts, hb]
        rfl
    | false =>
      have hr : 10 ∈ r := by
        rcases List.mem_cons.1 h with e | e
        · rw [← e] at hb; cases hb
        · exact e
      obtain ⟨m, h1, h2, h3⟩ := index_cut hr
      refine ⟨m + 1, ?_, by simp; omega, ?_⟩
      · unfold Go.Lib.indexByte
        rw [hb, h1]
        have : ((m : Int) == -1) = false := by rw [beq_eq_false_iff_ne]; omega
        simp only [this, Bool.false_eq_true, if_false]
        omega
      · show cuts (b :: r) = _
        rw [cuts, hb, h3]
        rfl

theorem cuts_le (s : List UInt8) : (cuts s).length ≤ s.length + 1 := by
  rw [cuts_len]
  have := List.count_le_length (a := (10 : UInt8)) (l := s)
  omega
theorem cuts_pos (s : List UInt8) : 0 < (cuts s).length := by rw [cuts_len]; omega

theorem cut_loop (a : List UInt8) (ha : a.length ≤ 2 ^ 40) : spec_l01Cut_loop0_ends (a, 10) (0, 0, []) = true ∧ spec_l01Cut_loop0 (a, 10) (0, 0, []) = cuts a := by
  refine loop_post (step := spec_l01Cut_loop0_step (a, 10)) (fun s => (∃ f i : Nat, s.1 = (f : Int) ∧ s.2.1 = (i : Int) ∧ f ≤ i ∧ i ≤ a.length ∧ s.2.2 ++ cuts (a.drop f) = cuts a ∧ 10 ∉ (a.drop f).take (i - f)) ∨ (s.2.1 = ((a.length + 1 : Nat) : Int) ∧ s.2.2 = cuts a)) (fun s => a.length + 1 - s.2.1.toNat) (fun r => r = cuts a) ?_ (0, 0, []) (.inl ⟨0, 0, rfl, rfl, Nat.le_refl _, Nat.zero_le _, rfl, by simp⟩)
  have hcl := cuts_le a
  rintro ⟨kf, ki, out⟩ hinv
  rcases hinv with ⟨f, i, hf, hi, hfi, hil, he, hno⟩ | ⟨hi, he⟩
  · simp only at hf hi he
    subst hf hi
    have hol : out.length + 1 ≤ a.length + 1 := by
      have h1 := congrArg List.length he
      rw [List.length_append] at h1
      have := cuts_pos (a.drop f)
      omega
    have g0 : decide (((i : Nat) : Int) ≤ ((a.length : Nat) : Int)) = true := decide_eq_true (by omega)
    have gi : (decide (0 ≤ ((i : Nat) : Int)) && decide (((i : Nat) : Int) ≤ ((a.length : Nat) : Int))) = true := by
      rw [decide_eq_true (p := (0 : Int) ≤ ((i : Nat) : Int)) (by omega), decide_eq_true (by omega)]; rfl
    have gf : (decide (0 ≤ ((f : Nat) : Int)) && decide (((f : Nat) : Int) ≤ ((i : Nat) : Int))) = true := by
      rw [decide_eq_true (p := (0 : Int) ≤ ((f : Nat) : Int)) (by omega), decide_eq_true (by omega)]; rfl
    have gl : ∀ x : List UInt8, (decide ((out.length + [x].length) * 16 ≤ 140737488355328) && decide (out.length + [x].length ≤ 9223372036854775807)) = true := by
      intro x
      show (decide ((out.length + 1) * 16 ≤ 140737488355328) && decide (out.length + 1 ≤ 9223372036854775807)) = true
      rw [decide_eq_true (by omega), decide_eq_true (by omega)]; rfl
    have w : IntKind.wrap .i64 ((i : Int) + 1) = ((i + 1 : Nat) : Int) := by rw [wrap_small (by omega) (by omega)]; omega
    have hpc : (a.take i).drop f = (a.drop f).take (i - f) := List.drop_take
    have hm : a.length + 1 - ((i + 1 : Nat) : Int).toNat < a.length + 1 - ((i : Nat) : Int).toNat := by
      rw [Int.toNat_natCast, Int.toNat_natCast]; omega
    unfold spec_l01Cut_loop0_step
    rcases Nat.lt_or_ge i a.length with hlt | hge
    · have g1 : (((i : Nat) : Int) == ((a.length : Nat) : Int)) = false := by rw [beq_eq_false_iff_ne]; omega
      have hget : a.getD i 0 = a[i] := by rw [List.getD_eq_getElem?_getD, List.getElem?_eq_getElem hlt, Option.getD_some]
      have hdrop : a.drop f = (a.drop f).take (i - f) ++ a[i] :: a.drop (i + 1) := by
        have h1 : (a.drop f).drop (i - f) = a[i] :: a.drop (i + 1) := by
          rw [List.drop_drop, show f + (i - f) = i from by omega, List.drop_eq_getElem_cons hlt]
        have h2 := List.take_append_drop (i - f) (a.drop f)
        rw [h1] at h2
        exact h2.symm
      cases hb : (((a[i].toNat : Nat) : Int) == 10) with
      | true =>
        have hb := eq_of_beq hb
        have hb10 : a[i] = 10 := by
          apply UInt8.toNat_inj.1
          show a[i].toNat = 10
          omega
        refine ⟨.inl (((i + 1 : Nat) : Int), ((i + 1 : Nat) : Int), out ++ [(a.drop f).take (i - f)]), [169], ?_, .inl ⟨i + 1, i + 1, rfl, rfl, Nat.le_refl _, hlt, ?_, by simp⟩, hm⟩
        · refine (DT.get_yes g0).trans ((DT.get_no g1).trans ((DT.get_need (nat_in hlt)).trans ?_))
          simp only [Int.toNat_natCast, hget, hb]
          refine (DT.get_yes rfl).trans ((DT.get_need gi).trans ?_)
          refine (DT.get_need gf).trans ((DT.get_need (gl _)).trans ?_)
          simp only [w, hpc]
          rfl
        · show (out ++ [(a.drop f).take (i - f)]) ++ cuts (a.drop (i + 1)) = cuts a
          rw [List.append_assoc, ← he]
          congr 1
          rw [hb10] at hdrop
          conv => rhs; rw [hdrop]
          rw [cuts_app _ hno]
          rfl
      | false =>
        have hb' : a[i] ≠ 10 := by
          intro h
          rw [h] at hb
          exact absurd hb (by decide)
        refine ⟨.inl ((f : Int), ((i + 1 : Nat) : Int), out), [0], ?_, .inl ⟨f, i + 1, rfl, rfl, by omega, hlt, he, ?_⟩, hm⟩
        · refine (DT.get_yes g0).trans ((DT.get_no g1).trans ((DT.get_need (nat_in hlt)).trans ?_))
          simp only [Int.toNat_natCast, hget]
          refine (DT.get_no hb).trans ?_
          simp only [w]
          rfl
        · rw [hdrop]
          have hl : ((a.drop f).take (i - f)).length = i - f := by rw [List.length_take, List.length_drop]; omega
          rw [List.take_append, hl, List.take_of_length_le (by rw [hl]; omega), show i + 1 - f - (i - f) = 1 from by omega]
          intro hmem
          rcases List.mem_append.1 hmem with h | h
          · exact hno h
          · have h : 10 ∈ [a[i]] := h
            exact hb' (List.mem_singleton.1 h).symm
    · have hii : i = a.length := by omega
      subst hii
      have g1 : (((a.length : Nat) : Int) == ((a.length : Nat) : Int)) = true := by simp
      refine ⟨.inl (((a.length + 1 : Nat) : Int), ((a.length + 1 : Nat) : Int), out ++ [(a.drop f).take (a.length - f)]), [169], ?_, .inr ⟨rfl, ?_⟩, hm⟩
      · refine (DT.get_yes g0).trans ((DT.get_yes g1).trans ((DT.get_need gi).trans ?_))
        simp only [Int.toNat_natCast]
        refine (DT.get_need gf).trans ((DT.get_need (gl _)).trans ?_)
        simp only [w, hpc]
        rfl
      · show out ++ [(a.drop f).take (a.length - f)] = cuts a
        have hall : (a.drop f).take (a.length - f) = a.drop f := List.take_of_length_le (by rw [List.length_drop]; omega)
        rw [hall] at hno
        rw [hall, ← he, cuts_pure hno]
  · simp only at hi he
    subst hi
    have g0 : decide (((a.length + 1 : Nat) : Int) ≤ ((a.length : Nat) : Int)) = false := decide_eq_false (by omega)
    refine ⟨.inr out, [0], ?_, he⟩
    unfold spec_l01Cut_loop0_step
    exact (DT.get_no g0).trans rfl

theorem cut_eq (a : List UInt8) (ha : a.length ≤ 2 ^ 40) : spec_l01Cut_need a 10 = true ∧ spec_l01Cut a 10 = cuts a := by
  obtain ⟨h1, h2⟩ := cut_loop a ha
  have hv : spec_l01Cut a 10 = spec_l01Cut_loop0 (a, 10) (0, 0, []) := rfl
  refine ⟨?_, hv.trans h2⟩
  unfold spec_l01Cut_need spec_l01Cut_tree
  simp only [DT.ok, h1]

/-- The lines ahead of the last part; the last part. -/
def linesP (a : List UInt8) : List (List UInt8) := (cuts a).take ((cuts a).length - 1)
def lastP (a : List UInt8) : List UInt8 := (cuts a).getD ((cuts a).length - 1) default

theorem lines_spec (a : List UInt8) (ha : a.length ≤ 2 ^ 40) : spec_l08Lines_need a = true ∧ spec_l08Lines a = (linesP a, lastP a) := by
  obtain ⟨h1, h2⟩ := cut_eq a ha
  have hp := cuts_pos a
  have hl := cuts_le a
  have w : IntKind.wrap .i64 ((((cuts a).length : Nat) : Int) - 1) = (((cuts a).length - 1 : Nat) : Int) := by rw [wrap_small (by omega) (by omega)]; omega
  have key : (spec_l08Lines_tree a).get = some (linesP a, lastP a) := by
    unfold spec_l08Lines_tree
    refine (DT.get_need h1).trans ?_
    simp only [h2, w]
    refine (DT.get_need (by rw [decide_eq_true (p := (0 : Int) ≤ (((cuts a).length - 1 : Nat) : Int)) (by omega), decide_eq_true (by omega)]; rfl)).trans ((DT.get_need (nat_in (by omega))).trans ?_)
    simp only [Int.toNat_natCast]
    refine (DT.get_need (decide_eq_true (by omega))).trans ?_
    rw [DT.get_leaf, Nat.sub_zero]
    rfl
  exact DT.of_get key


/-! ## First places -/

theorem index_split (c : UInt8) : ∀ {s : List UInt8}, c ∈ s → ∃ m : Nat, Go.Lib.indexByte s c = (m : Int) ∧ m < s.length ∧ s = s.take m ++ c :: s.drop (m + 1) ∧ c ∉ s.take m
  | [], h => by cases h
  | b :: r, h => by
    cases hb : b == c with
    | true =>
      refine ⟨0, ?_, by simp, ?_, by simp⟩
      · unfold Go.Lib.indexByte
        rw [hb]
        rfl
      · have := eq_of_beq hb
        subst this
        rfl
    | false =>
      have hr : c ∈ r := by
        rcases List.mem_cons.1 h with e | e
        · rw [← e] at hb; simp at hb
        · exact e
      obtain ⟨m, h1, h2, h3, h4⟩ := index_split c hr
      refine ⟨m + 1, ?_, by simp; omega, ?_, ?_⟩
      · unfold Go.Lib.indexByte
        rw [hb, h1]
        have : ((m : Int) == -1) = false := by rw [beq_eq_false_iff_ne]; omega
        simp only [this, Bool.false_eq_true, if_false]
        omega
      · show b :: r = b :: (r.take m ++ c :: r.drop (m + 1))
        rw [← h3]
      · intro hm
        rcases List.mem_cons.1 hm with e | e
        · rw [← e] at hb; simp at hb
        · exact h4 e

theorem index_none (c : UInt8) : ∀ {s : List UInt8}, c ∉ s → Go.Lib.indexByte s c = -1
  | [], _ => rfl
  | b :: r, h => by
    have hb : (b == c) = false := by
      rw [beq_eq_false_iff_ne]
      exact fun e => h (by rw [e]; exact List.mem_cons_self ..)
    unfold Go.Lib.indexByte
    rw [hb, index_none c fun hr => h (List.mem_cons_of_mem _ hr)]
    rfl

theorem index10 (s : List UInt8) : internal_stringslite_Index_k10 s = Go.Lib.indexByte s 10 := by
  unfold internal_stringslite_Index_k10 internal_stringslite_Index_k10_tree
  simp only [DT.val]
  cases h : ([10] == s) with
  | true =>
    have h := eq_of_beq h
    subst h
    rfl
  | false => rfl
theorem index32 (s : List UInt8) : internal_stringslite_Index_k32 s = Go.Lib.indexByte s 32 := by
  unfold internal_stringslite_Index_k32 internal_stringslite_Index_k32_tree
  simp only [DT.val]
  cases h : ([32] == s) with
  | true =>
    have h := eq_of_beq h
    subst h
    rfl
  | false => rfl

theorem bound2 {m n : Nat} (h : m ≤ n) : (decide (0 ≤ ((m : Nat) : Int)) && decide (((m : Nat) : Int) ≤ ((n : Nat) : Int))) = true := by
  rw [decide_eq_true (p := (0 : Int) ≤ ((m : Nat) : Int)) (by omega), decide_eq_true (by omega)]; rfl

theorem cutAt10_some {s : List UInt8} {m : Nat} (hm : Go.Lib.indexByte s 10 = (m : Int)) (hl : m < s.length) (hs : s.length ≤ 2 ^ 40) : strings_Cut_k10_need s = true ∧ strings_Cut_k10 s = (s.take m, s.drop (m + 1), true) := by
  have w : IntKind.wrap .i64 ((m : Int) + 1) = ((m + 1 : Nat) : Int) := by rw [wrap_small (by omega) (by omega)]; omega
  have key : (internal_stringslite_Cut_k10_tree s).get = some (s.take m, s.drop (m + 1), true) := by
    unfold internal_stringslite_Cut_k10_tree
    simp only [index10, hm]
    refine (DT.get_yes (decide_eq_true (by omega))).trans ((DT.get_need (bound2 (by omega))).trans ?_)
    simp only [w]
    refine (DT.get_need (bound2 (by omega))).trans ?_
    rw [DT.get_leaf, Int.toNat_natCast, Int.toNat_natCast, List.take_length, List.drop_zero]
  obtain ⟨k1, k2⟩ := DT.of_get key
  have k1 : internal_stringslite_Cut_k10_need s = true := k1
  have k2 : internal_stringslite_Cut_k10 s = _ := k2
  have key2 : (strings_Cut_k10_tree s).get = some (s.take m, s.drop (m + 1), true) := by
    unfold strings_Cut_k10_tree
    refine (DT.get_need k1).trans ?_
    simp only [k2]
    rfl
  exact DT.of_get key2
theorem cutAt10_none {s : List UInt8} (h : Go.Lib.indexByte s 10 = -1) : strings_Cut_k10_need s = true ∧ strings_Cut_k10 s = (s, [], false) := by
  have key : (internal_stringslite_Cut_k10_tree s).get = some (s, [], false) := by
    unfold internal_stringslite_Cut_k10_tree
    simp only [index10, h]
    exact (DT.get_no rfl).trans rfl
  obtain ⟨k1, k2⟩ := DT.of_get key
  have k1 : internal_stringslite_Cut_k10_need s = true := k1
  have k2 : internal_stringslite_Cut_k10 s = _ := k2
  have key2 : (strings_Cut_k10_tree s).get = some (s, [], false) := by
    unfold strings_Cut_k10_tree
    refine (DT.get_need k1).trans ?_
    simp only [k2]
    rfl
  exact DT.of_get key2
theorem cutAt32_some {s : List UInt8} {m : Nat} (hm : Go.Lib.indexByte s 32 = (m : Int)) (hl : m < s.length) (hs : s.length ≤ 2 ^ 40) : strings_Cut_k32_need s = true ∧ strings_Cut_k32 s = (s.take m, s.drop (m + 1), true) := by
  have w : IntKind.wrap .i64 ((m : Int) + 1) = ((m + 1 : Nat) : Int) := by rw [wrap_small (by omega) (by omega)]; omega
  have key : (internal_stringslite_Cut_k32_tree s).get = some (s.take m, s.drop (m + 1), true) := by
    unfold internal_stringslite_Cut_k32_tree
    simp only [index32, hm]
    refine (DT.get_yes (decide_eq_true (by omega))).trans ((DT.get_need (bound2 (by omega))).trans ?_)
    simp only [w]
    refine (DT.get_need (bound2 (by omega))).trans ?_
    rw [DT.get_leaf, Int.toNat_natCast, Int.toNat_natCast, List.take_length, List.drop_zero]
  obtain ⟨k1, k2⟩ := DT.of_get key
  have k1 : internal_stringslite_Cut_k32_need s = true := k1
  have k2 : internal_stringslite_Cut_k32 s = _ := k2
  have key2 : (strings_Cut_k32_tree s).get = some (s.take m, s.drop (m + 1), true) := by
    unfold strings_Cut_k32_tree
    refine (DT.get_need k1).trans ?_
    simp only [k2]
    rfl
  exact DT.of_get key2
theorem cutAt32_none {s : List UInt8} (h : Go.Lib.indexByte s 32 = -1) : strings_Cut_k32_need s = true ∧ strings_Cut_k32 s = (s, [], false) := by
  have key : (internal_stringslite_Cut_k32_tree s).get = some (s, [], false) := by
    unfold internal_stringslite_Cut_k32_tree
    simp only [index32, h]
    exact (DT.get_no rfl).trans rfl
  obtain ⟨k1, k2⟩ := DT.of_get key
  have k1 : internal_stringslite_Cut_k32_need s = true := k1
  have k2 : internal_stringslite_Cut_k32 s = _ := k2
  have key2 : (strings_Cut_k32_tree s).get = some (s, [], false) := by
    unfold strings_Cut_k32_tree
    refine (DT.get_need k1).trans ?_
    simp only [k2]
    rfl
  exact DT.of_get key2

/-! ## Checks -/

theorem check_loops (l : List UInt8) : (∀ s, loopVal (impl_check_loop0_step (l, ((l.length : Nat) : Int))) s = loopVal (spec_l01Check_loop0_step l) s) ∧ ∀ s, loopEnds (impl_check_loop0_step (l, ((l.length : Nat) : Int))) s = loopEnds (spec_l01Check_loop0_step l) s :=
  loop_alike fun s => rfl

theorem check_loop (l : List UInt8) (hl : l.length ≤ 2 ^ 62) (n : Int) (hn0 : 0 ≤ n) (hn1 : n < 65003) : spec_l01Check_loop0_ends l (n, 0) = true ∧ 0 ≤ spec_l01Check_loop0 l (n, 0) ∧ spec_l01Check_loop0 l (n, 0) < 65003 := by
  refine loop_post (step := spec_l01Check_loop0_step l) (fun s => ∃ i : Nat, s.2 = (i : Int) ∧ i ≤ l.length ∧ 0 ≤ s.1 ∧ s.1 < 65003) (fun s => l.length - s.2.toNat) (fun r => 0 ≤ r ∧ r < 65003) ?_ (n, 0) ⟨0, rfl, Nat.zero_le _, hn0, hn1⟩
  rintro ⟨k, s⟩ ⟨i, hs, hi, h0, h1⟩
  simp only at hs h0 h1
  subst hs
  rcases Nat.lt_or_ge i l.length with hlt | hge
  · have hb : (l.getD i 0).toNat < 256 := (l.getD i 0).toNat_lt
    have w1 : IntKind.wrap .i64 (809 * k) = 809 * k := wrap_small (by omega) (by omega)
    have w2 : IntKind.wrap .i64 ((l.getD i 0).toNat : Int) = ((l.getD i 0).toNat : Int) := wrap_small (by omega) (by omega)
    have w3 : IntKind.wrap .i64 (809 * k + ((l.getD i 0).toNat : Int)) = 809 * k + ((l.getD i 0).toNat : Int) := wrap_small (by omega) (by omega)
    have w4 : IntKind.wrap .i64 (809 * k + ((l.getD i 0).toNat : Int) + 103) = 809 * k + ((l.getD i 0).toNat : Int) + 103 := wrap_small (by omega) (by omega)
    refine ⟨.inl (Int.tmod (809 * k + ((l.getD i 0).toNat : Int) + 103) 65003, ((i + 1 : Nat) : Int)), [], ?_, ⟨i + 1, rfl, hlt, ?_, ?_⟩, ?_⟩
    · unfold spec_l01Check_loop0_step
      simp only [DT.get, nat_dec hlt, nat_ge, Bool.and_self, Int.toNat_natCast, nat_next hlt hl, w1, w2, w3, w4]
    · show 0 ≤ Int.tmod _ _
      rw [Int.tmod_eq_emod_of_nonneg (by omega)]; omega
    · show Int.tmod _ _ < 65003
      rw [Int.tmod_eq_emod_of_nonneg (by omega)]; omega
    · show l.length - ((i + 1 : Nat) : Int).toNat < l.length - ((i : Nat) : Int).toNat
      rw [Int.toNat_natCast, Int.toNat_natCast]
      omega
  · have he : i = l.length := Nat.le_antisymm hi hge
    refine ⟨.inr k, [], ?_, h0, h1⟩
    unfold spec_l01Check_loop0_step
    simp only [DT.get, he, nat_not]

theorem check_same (l : List UInt8) (hl : l.length ≤ 2 ^ 62) (n : Int) (hn0 : 0 ≤ n) (hn1 : n < 65003) : impl_check_need n l = true ∧ spec_l01Check_need n l = true ∧ impl_check n l = spec_l01Check n l ∧ 0 ≤ spec_l01Check n l ∧ spec_l01Check n l < 65003 := by
  obtain ⟨h1, h2, h3⟩ := check_loop l hl n hn0 hn1
  have hi : impl_check_loop0_ends (l, ((l.length : Nat) : Int)) (n, 0) = true := ((check_loops l).2 (n, 0)).trans h1
  have hv : impl_check_loop0 (l, ((l.length : Nat) : Int)) (n, 0) = spec_l01Check_loop0 l (n, 0) := (check_loops l).1 (n, 0)
  have hs : spec_l01Check n l = spec_l01Check_loop0 l (n, 0) := rfl
  have hp : impl_check n l = impl_check_loop0 (l, ((l.length : Nat) : Int)) (n, 0) := rfl
  refine ⟨?_, ?_, by rw [hp, hs, hv], by rw [hs]; exact h2, by rw [hs]; exact h3⟩
  · unfold impl_check_need impl_check_tree
    simp only [DT.ok, hi]
  · unfold spec_l01Check_need spec_l01Check_tree
    simp only [DT.ok, h1]

/-! ## Numerals -/

theorem u8_wrap (n : Int) : IntKind.wrap .u8 n = n % 256 := rfl
theorem strOf_cons (x : Int) (l : List Int) : strOf (x :: l) = UInt8.ofNat x.toNat :: strOf l := rfl

/-- What is still to be written. -/
def todo (u : Nat) (out : List Int) : List UInt8 := match out with
  | [] => Go.Lib.decDigits u
  | _ :: _ => match u with
    | 0 => strOf out
    | v + 1 => Go.Lib.decDigits (v + 1) ++ strOf out

theorem todo_step (u : Nat) (out : List Int) (h : out = [] ∨ u ≠ 0) : todo (u / 10) (((48 + u % 10 : Nat) : Int) :: out) = todo u out := by
  have hl : todo u out = Go.Lib.decDigits u ++ strOf out := by
    cases out with
    | nil => simp [todo, strOf]
    | cons x r =>
      cases u with
      | zero => rcases h with h | h <;> simp at h
      | succ v => rfl
  rw [hl]
  by_cases h10 : u < 10
  · have h0 : u / 10 = 0 := by omega
    have hm : u % 10 = u := by omega
    rw [Go.Lib.decDigits_one h10, h0, hm]
    show strOf (((48 + u : Nat) : Int) :: out) = _
    rw [strOf_cons, Int.toNat_natCast]
    rfl
  · obtain ⟨v, hv⟩ : ∃ v, u / 10 = v + 1 := ⟨u / 10 - 1, by omega⟩
    rw [Go.Lib.decDigits, dif_neg h10, hv]
    show Go.Lib.decDigits (v + 1) ++ strOf (((48 + u % 10 : Nat) : Int) :: out) = _
    rw [strOf_cons, Int.toNat_natCast, List.append_assoc]
    rfl

theorem dec_loop (n : Nat) (hn : n < 65003) : spec_l01Dec_loop0_ends (n : Int) ((n : Int), []) = true ∧ strOf (spec_l01Dec_loop0 (n : Int) ((n : Int), [])) = Go.Lib.decDigits n := by
  refine loop_post (step := spec_l01Dec_loop0_step (n : Int)) (fun s => ∃ u : Nat, s.1 = (u : Int) ∧ u ≤ n ∧ s.2.length + u ≤ n + 1 ∧ todo u s.2 = Go.Lib.decDigits n) (fun s => s.1.toNat + (if s.2.length = 0 then 1 else 0)) (fun r => strOf r = Go.Lib.decDigits n) ?_ ((n : Int), []) ⟨n, rfl, Nat.le_refl _, by simp, rfl⟩
  rintro ⟨k, out⟩ ⟨u, hk, hu, hl, ht⟩
  simp only at hk hl ht
  subst hk
  have t1 : Int.tmod (u : Int) 10 = ((u % 10 : Nat) : Int) := by rw [Int.tmod_eq_emod_of_nonneg (by omega)]; omega
  have t2 : Int.tdiv (u : Int) 10 = ((u / 10 : Nat) : Int) := by rw [Int.tdiv_eq_ediv_of_nonneg (by omega)]; omega
  have w1 : IntKind.wrap .i64 (48 + ((u % 10 : Nat) : Int)) = ((48 + u % 10 : Nat) : Int) := by rw [wrap_small (by omega) (by omega)]; omega
  have w2 : IntKind.wrap .u8 ((48 + u % 10 : Nat) : Int) = ((48 + u % 10 : Nat) : Int) := by rw [u8_wrap]; omega
  have w3 : IntKind.wrap .i64 ((u / 10 : Nat) : Int) = ((u / 10 : Nat) : Int) := wrap_small (by omega) (by omega)
  have dneg : decide (((u % 10 : Nat) : Int) < 0) = false := decide_eq_false (by omega)
  have gl : (decide ((([((48 + u % 10 : Nat) : Int)] : List Int).length + out.length) * 1 ≤ 140737488355328) && decide (([((48 + u % 10 : Nat) : Int)] : List Int).length + out.length ≤ 9223372036854775807)) = true := by
    show (decide ((1 + out.length) * 1 ≤ 140737488355328) && decide (1 + out.length ≤ 9223372036854775807)) = true
    rw [decide_eq_true (by omega), decide_eq_true (by omega)]; rfl
  have next : (out = [] ∨ u ≠ 0) → (∃ v : Nat, (((u / 10 : Nat) : Int), ((48 + u % 10 : Nat) : Int) :: out).1 = (v : Int) ∧ v ≤ n ∧ (((u / 10 : Nat) : Int), ((48 + u % 10 : Nat) : Int) :: out).2.length + v ≤ n + 1 ∧ todo v (((u / 10 : Nat) : Int), ((48 + u % 10 : Nat) : Int) :: out).2 = Go.Lib.decDigits n) ∧ (((u / 10 : Nat) : Int), ((48 + u % 10 : Nat) : Int) :: out).1.toNat + (if (((u / 10 : Nat) : Int), ((48 + u % 10 : Nat) : Int) :: out).2.length = 0 then 1 else 0) < ((u : Nat) : Int).toNat + (if out.length = 0 then 1 else 0) := by
    intro h
    refine ⟨⟨u / 10, rfl, by omega, ?_, (todo_step u out h).trans ht⟩, ?_⟩
    · show out.length + 1 + u / 10 ≤ n + 1
      rcases h with h | h
      · rw [h]; simp; omega
      · omega
    · show (((u / 10 : Nat) : Int)).toNat + (if out.length + 1 = 0 then 1 else 0) < _
      rw [if_neg (by omega), Int.toNat_natCast, Int.toNat_natCast]
      rcases h with h | h
      · rw [h]; simp; omega
      · omega
  unfold spec_l01Dec_loop0_step
  cases out with
  | nil =>
    refine ⟨.inl (((u / 10 : Nat) : Int), [((48 + u % 10 : Nat) : Int)]), [137], ?_, next (.inl rfl)⟩
    refine (DT.get_yes rfl).trans (DT.get_skip.trans ?_)
    simp only [t1, t2, w1, w2, w3]
    refine (DT.get_no dneg).trans ((DT.get_need gl).trans (DT.get_skip.trans ?_))
    rfl
  | cons x r =>
    have e0 : ((((x :: r).length : Nat) : Int) == 0) = false := by rw [beq_eq_false_iff_ne]; simp; omega
    cases u with
    | zero =>
      refine ⟨.inr (x :: r), [0], (DT.get_no e0).trans ((DT.get_no rfl).trans rfl), ?_⟩
      exact ht
    | succ v =>
      have e1 : (((v + 1 : Nat) : Int) != 0) = true := by rw [bne_iff_ne]; omega
      refine ⟨.inl ((((v + 1) / 10 : Nat) : Int), ((48 + (v + 1) % 10 : Nat) : Int) :: x :: r), [137], ?_, next (.inr (by omega))⟩
      refine (DT.get_no e0).trans ((DT.get_yes e1).trans (DT.get_skip.trans ?_))
      simp only [t1, t2, w1, w2, w3]
      refine (DT.get_no dneg).trans ((DT.get_need gl).trans (DT.get_skip.trans ?_))
      rfl

theorem dec_same (n : Int) (h0 : 0 ≤ n) (h1 : n < 65003) : impl_Decimal_need n = true ∧ spec_l01Dec_need n = true ∧ impl_Decimal n = spec_l01Dec n := by
  obtain ⟨u, rfl⟩ : ∃ u : Nat, n = (u : Int) := ⟨n.toNat, by omega⟩
  obtain ⟨l1, l2⟩ := dec_loop u (by omega)
  have hneg : decide ((u : Int) < 0) = false := decide_eq_false (by omega)
  have hs : (spec_l01Dec_tree (u : Int)).get = some (Go.Lib.decDigits u) := by
    unfold spec_l01Dec_tree
    refine (DT.get_need l1).trans ((DT.get_no hneg).trans ?_)
    rw [DT.get_leaf, l2]
  obtain ⟨s1, s2⟩ := DT.of_get hs
  have hi : (impl_Decimal_tree (u : Int)).get = some (Go.Lib.decDigits u) := by
    unfold impl_Decimal_tree
    refine (DT.get_need (by rw [decide_eq_true (by omega), decide_eq_true (by omega)]; rfl)).trans ?_
    rw [DT.get_leaf]
    unfold Go.Lib.itoa
    rw [if_neg (by omega), Int.toNat_natCast]
  obtain ⟨i1, i2⟩ := DT.of_get hi
  exact ⟨i1, s1, i2.trans s2.symm⟩

end Go.Proofs.YtcipkfndnkmjlaaDoor
