/- Plain law of CountOutputs: texts are cut into lines alike, and lines are counted alike. -/
import Derived.Test.YtcipkfndnkmjlaaDoorG1
import Derived.Test.YtcipkfndnkmjlaaDoorEngX
namespace Go.Proofs.YtcipkfndnkmjlaaDoor
set_option linter.unusedVariables false
set_option linter.unusedSimpArgs false

/-! ## The parts of a text between newlines -/

def cuts : List UInt8 → List (List UInt8)
  | [] => [[]]
  | b :: r => match b == 10 with
    | true => [] :: cuts r
    | false => match cuts r with
      | [] => [[b]]
      | c :: cs => (b :: c) :: cs

theorem cuts_len : ∀ s : List UInt8, (cuts s).length = s.count 10 + 1
  | [] => rfl
  | b :: r => by
    have ih := cuts_len r
    unfold cuts
    rw [List.count_cons]
    cases hb : b == 10 with
    | true => simp only [List.length_cons, ih, if_true]
    | false =>
      simp only
      cases hc : cuts r with
      | nil => rw [hc] at ih; simp at ih
      | cons c cs => rw [hc] at ih; simp only [List.length_cons] at ih ⊢; simpa using ih

theorem cuts_pure : ∀ {s : List UInt8}, 10 ∉ s → cuts s = [s]
  | [], _ => rfl
  | b :: r, h => by
    have hb : (b == 10) = false := by
      rw [beq_eq_false_iff_ne]
      exact fun e => h (by rw [e]; exact List.mem_cons_self ..)
    unfold cuts
    rw [hb, cuts_pure fun hr => h (List.mem_cons_of_mem _ hr)]

theorem cuts_app : ∀ {c : List UInt8} (r : List UInt8), 10 ∉ c → cuts (c ++ 10 :: r) = c :: cuts r
  | [], r, _ => rfl
  | b :: c, r, h => by
    have hb : (b == 10) = false := by
      rw [beq_eq_false_iff_ne]
      exact fun e => h (by rw [e]; exact List.mem_cons_self ..)
    show cuts (b :: (c ++ 10 :: r)) = _
    rw [cuts, hb, cuts_app r fun hr => h (List.mem_cons_of_mem _ hr)]

theorem index_cut : ∀ {s : List UInt8}, 10 ∈ s → ∃ m : Nat, Go.Lib.indexByte s 10 = (m : Int) ∧ m < s.length ∧ cuts s = s.take m :: cuts (s.drop (m + 1))
  | [], h => by cases h
  | b :: r, h => by
    cases hb : b == 10 with
    | true =>
      refine ⟨0, ?_, by simp, ?_⟩
      · unfold Go.Lib.indexByte
        rw [hb]
        rfl
      · show cuts (b :: r) = _
        rw [cuts, hb]
        rfl
    | false =>
      have hr : 10 ∈ r := by
        rcases List.mem_cons.1 h with e | e
        · rw [← e] at hb; cases hb
        · exact e
      obtain ⟨m, h1, h2, h3⟩ := index_cut hr
      refine ⟨m + 1, ?_, by simp; omega, ?_⟩
      · unfold Go.Lib.indexByte
        rw [hb, h1]
        have : ((m : Int) == -1) = false := by rw [beq_eq_false_iff_ne]; omega
        simp only [this, Bool.false_eq_true, if_false]
        omega
      · show cuts (b :: r) = _
        rw [cuts, hb, h3]
        rfl

theorem cuts_le (s : List UInt8) : (cuts s).length ≤ s.length + 1 := by
  rw [cuts_len]
  have := List.count_le_length (a := (10 : UInt8)) (l := s)
  omega
theorem cuts_pos (s : List UInt8) : 0 < (cuts s).length := by rw [cuts_len]; omega

/-! ## The program's -/

theorem index_eq (s : List UInt8) : strings_Index_k10 s = Go.Lib.indexByte s 10 := by
  show internal_stringslite_Index_k10 s = _
  unfold internal_stringslite_Index_k10 internal_stringslite_Index_k10_tree
  simp only [DT.val]
  cases h : ([10] == s) with
  | true =>
    have h := eq_of_beq h
    subst h
    rfl
  | false => rfl

theorem split_loop (a : List UInt8) (N : Nat) (hN : N = (cuts a).length) (ha : a.length ≤ 2 ^ 40) (x : List (List UInt8)) (hx : x.length = N) :
    strings_genSplit_k10_k0_m1_loop0_ends (0, ((N - 1 : Nat) : Int)) (a, 0, x) = true ∧ (fun r : List UInt8 × Int × List (List UInt8) => r.2.1 = ((N - 1 : Nat) : Int) ∧ r.2.2.length = N ∧ r.2.2.take (N - 1) ++ [r.1] = cuts a) (strings_genSplit_k10_k0_m1_loop0 (0, ((N - 1 : Nat) : Int)) (a, 0, x)) := by
  have hNp : 0 < N := by rw [hN]; exact cuts_pos a
  have hNl : N ≤ a.length + 1 := by rw [hN]; exact cuts_le a
  refine loop_post (step := strings_genSplit_k10_k0_m1_loop0_step (0, ((N - 1 : Nat) : Int))) (fun s => ∃ i : Nat, s.2.1 = (i : Int) ∧ s.2.2.length = N ∧ s.1.length ≤ a.length ∧ s.2.2.take i ++ cuts s.1 = cuts a ∧ i + (cuts s.1).length = N) (fun s => N - s.2.1.toNat) (fun r => r.2.1 = ((N - 1 : Nat) : Int) ∧ r.2.2.length = N ∧ r.2.2.take (N - 1) ++ [r.1] = cuts a) ?_ (a, 0, x) ⟨0, rfl, hx, Nat.le_refl _, rfl, by show 0 + (cuts a).length = N; omega⟩
  rintro ⟨s, k, y⟩ ⟨i, hk, hy, hs, he, hi⟩
  simp only at hk hy hs he hi
  subst hk
  have hp := cuts_pos s
  unfold strings_genSplit_k10_k0_m1_loop0_step
  rcases Nat.lt_or_ge i (N - 1) with hlt | hge
  · have hc : 10 ∈ s := by
      have := cuts_len s
      have : 0 < s.count 10 := by omega
      exact List.count_pos_iff.1 this
    obtain ⟨m, h1, h2, h3⟩ := index_cut hc
    have e1 : decide (((i : Nat) : Int) < ((N - 1 : Nat) : Int)) = true := decide_eq_true (by omega)
    have e2 : decide (((m : Nat) : Int) < 0) = false := decide_eq_false (by omega)
    have w1 : IntKind.wrap .i64 ((m : Int) + 0) = ((m : Nat) : Int) := by rw [wrap_small (by omega) (by omega)]; omega
    have w2 : IntKind.wrap .i64 ((m : Int) + 1) = ((m + 1 : Nat) : Int) := by rw [wrap_small (by omega) (by omega)]; omega
    have e3 : (decide (0 ≤ ((m : Nat) : Int)) && decide (((m : Nat) : Int) ≤ ((s.length : Nat) : Int))) = true := by
      rw [decide_eq_true (p := (0 : Int) ≤ ((m : Nat) : Int)) (by omega), decide_eq_true (by omega)]; rfl
    have e4 : (decide (0 ≤ ((i : Nat) : Int)) && decide (((i : Nat) : Int) < ((y.length : Nat) : Int))) = true := nat_in (by omega)
    have e5 : decide (i < y.length) = true := decide_eq_true (by omega)
    have e6 : (decide (0 ≤ ((m + 1 : Nat) : Int)) && decide (((m + 1 : Nat) : Int) ≤ ((s.length : Nat) : Int))) = true := by
      rw [decide_eq_true (p := (0 : Int) ≤ ((m + 1 : Nat) : Int)) (by omega), decide_eq_true (by omega)]; rfl
    have w3 : IntKind.wrap .i64 ((i : Int) + 1) = ((i + 1 : Nat) : Int) := nat_next (n := N) (by omega) (by omega)
    refine ⟨.inl (s.drop (m + 1), ((i + 1 : Nat) : Int), y.set i (s.take m)), [0], ?_, ⟨i + 1, rfl, by rw [List.length_set]; exact hy, ?_, ?_, ?_⟩, ?_⟩
    · refine (DT.get_yes e1).trans ?_
      simp only [index_eq, h1]
      refine (DT.get_no e2).trans ?_
      simp only [w1, w2, w3]
      refine (DT.get_need e3).trans ((DT.get_need e4).trans ?_)
      simp only [Int.toNat_natCast]
      refine (DT.get_need e5).trans ((DT.get_need e6).trans ?_)
      simp only [List.take_length, List.drop_zero]
      rfl
    · show (s.drop (m + 1)).length ≤ _
      rw [List.length_drop]; omega
    · show (y.set i (s.take m)).take (i + 1) ++ cuts (s.drop (m + 1)) = cuts a
      have hset : (y.set i (s.take m)).take (i + 1) = y.take i ++ [s.take m] := by
        rw [List.take_set, List.take_succ_eq_append_getElem (by omega), List.set_append_right _ _ (by rw [List.length_take]; omega)]
        congr 1
        rw [List.length_take, Nat.min_eq_left (by omega), Nat.sub_self]
        rfl
      rw [hset, List.append_assoc, ← he, h3]
      rfl
    · show i + 1 + (cuts (s.drop (m + 1))).length = N
      rw [h3] at hi
      simp only [List.length_cons] at hi
      omega
    · show N - ((i + 1 : Nat) : Int).toNat < N - ((i : Nat) : Int).toNat
      rw [Int.toNat_natCast, Int.toNat_natCast]
      omega
  · have hiN : i = N - 1 := by omega
    have hone : (cuts s).length = 1 := by omega
    have hc : 10 ∉ s := by
      have := cuts_len s
      exact fun h => by have := List.count_pos_iff.2 h; omega
    subst hiN
    have e1 : decide (((N - 1 : Nat) : Int) < ((N - 1 : Nat) : Int)) = false := nat_not
    refine ⟨.inr (s, ((N - 1 : Nat) : Int), y), [0], (DT.get_no e1).trans rfl, rfl, hy, ?_⟩
    rw [← he, cuts_pure hc]

theorem take_set_last {α : Type} {y : List α} {n : Nat} (x : α) (h : y.length = n) (hn : 0 < n) : (y.set (n - 1) x).take n = y.take (n - 1) ++ [x] := by
  have e : n = (n - 1) + 1 := by omega
  have hset : (y.set (n - 1) x).take ((n - 1) + 1) = y.take (n - 1) ++ [x] := by
    rw [List.take_set, List.take_succ_eq_append_getElem (by omega), List.set_append_right _ _ (by rw [List.length_take]; omega)]
    congr 1
    rw [List.length_take, Nat.min_eq_left (by omega), Nat.sub_self]
    rfl
  rw [← e] at hset
  exact hset

theorem split_eq (a : List UInt8) (ha : a.length ≤ 2 ^ 40) : strings_Split_k10_need a = true ∧ strings_Split_k10 a = cuts a := by
  obtain ⟨N, hN⟩ : ∃ N, N = (cuts a).length := ⟨_, rfl⟩
  have hNp : 0 < N := by rw [hN]; exact cuts_pos a
  have hNl : N ≤ a.length + 1 := by rw [hN]; exact cuts_le a
  have hcount : strings_Count_k10 a = ((N - 1 : Nat) : Int) := by
    show ((Go.Lib.countByte a 10 : Nat) : Int) = _
    rw [hN, cuts_len]
    rfl
  have w1 : IntKind.wrap .i64 (((N - 1 : Nat) : Int) + 1) = ((N : Nat) : Int) := by rw [wrap_small (by omega) (by omega)]; omega
  have w2 : IntKind.wrap .i64 (((a.length : Nat) : Int) + 1) = ((a.length + 1 : Nat) : Int) := by rw [wrap_small (by omega) (by omega)]; omega
  have w3 : (bif decide (((a.length + 1 : Nat) : Int) < ((N : Nat) : Int)) then ((a.length + 1 : Nat) : Int) else ((N : Nat) : Int)) = ((N : Nat) : Int) := by
    rw [decide_eq_false (by omega)]; rfl
  have w4 : IntKind.wrap .i64 (((N : Nat) : Int) - 1) = ((N - 1 : Nat) : Int) := by rw [wrap_small (by omega) (by omega)]; omega
  have e1 : (decide (0 ≤ ((N : Nat) : Int)) && decide (((N : Nat) : Int) ≤ ((N : Nat) : Int)) && decide (16 * ((N : Nat) : Int) ≤ 281474976710656) && decide (((N : Nat) : Int) ≤ 9223372036854775807)) = true := by
    rw [decide_eq_true (p := (0 : Int) ≤ ((N : Nat) : Int)) (by omega), decide_eq_true (p := ((N : Nat) : Int) ≤ ((N : Nat) : Int)) (by omega), decide_eq_true (p := 16 * ((N : Nat) : Int) ≤ 281474976710656) (by omega), decide_eq_true (by omega)]; rfl
  obtain ⟨l1, l2, l3, l4⟩ := split_loop a N hN ha (List.replicate N []) List.length_replicate
  obtain ⟨R, hR⟩ : ∃ R, R = strings_genSplit_k10_k0_m1_loop0 (0, ((N - 1 : Nat) : Int)) (a, 0, List.replicate N []) := ⟨_, rfl⟩
  rw [← hR] at l2 l3 l4
  have key : (strings_genSplit_k10_k0_m1_tree a).get = some (cuts a) := by
    unfold strings_genSplit_k10_k0_m1_tree
    refine DT.get_skip.trans (DT.get_skip.trans (DT.get_skip.trans ?_))
    simp only [hcount, w1, w2, w3]
    refine (DT.get_need e1).trans ?_
    simp only [w4, Int.toNat_natCast]
    refine (DT.get_need l1).trans ?_
    simp only [← hR, l2, l3, Int.toNat_natCast]
    refine (DT.get_need (nat_in (by omega))).trans ((DT.get_need (decide_eq_true (by omega))).trans ?_)
    simp only [List.length_set, l3, w1]
    refine (DT.get_need (by rw [decide_eq_true (p := (0 : Int) ≤ ((N : Nat) : Int)) (by omega), decide_eq_true (by omega)]; rfl)).trans ?_
    rw [DT.get_leaf, Int.toNat_natCast, Nat.sub_zero, take_set_last _ l3 hNp, l4]
  obtain ⟨g1, g2⟩ := DT.of_get key
  have hs : strings_Split_k10 a = strings_genSplit_k10_k0_m1 a := rfl
  refine ⟨?_, hs.trans g2⟩
  unfold strings_Split_k10_need strings_Split_k10_tree
  have g1 : strings_genSplit_k10_k0_m1_need a = true := g1
  simp only [DT.ok, g1]

/-! ## The reference's -/

theorem cut_loop (a : List UInt8) (ha : a.length ≤ 2 ^ 40) : spec_l01Cut_loop0_ends (a, 10) (0, 0, []) = true ∧ spec_l01Cut_loop0 (a, 10) (0, 0, []) = cuts a := by
  refine loop_post (step := spec_l01Cut_loop0_step (a, 10)) (fun s => (∃ f i : Nat, s.1 = (f : Int) ∧ s.2.1 = (i : Int) ∧ f ≤ i ∧ i ≤ a.length ∧ s.2.2 ++ cuts (a.drop f) = cuts a ∧ 10 ∉ (a.drop f).take (i - f)) ∨ (s.2.1 = ((a.length + 1 : Nat) : Int) ∧ s.2.2 = cuts a)) (fun s => a.length + 1 - s.2.1.toNat) (fun r => r = cuts a) ?_ (0, 0, []) (.inl ⟨0, 0, rfl, rfl, Nat.le_refl _, Nat.zero_le _, rfl, by simp⟩)
  have hcl := cuts_le a
  rintro ⟨kf, ki, out⟩ hinv
  rcases hinv with ⟨f, i, hf, hi, hfi, hil, he, hno⟩ | ⟨hi, he⟩
  · simp only at hf hi he
    subst hf hi
    have hol : out.length + 1 ≤ a.length + 1 := by
      have h1 := congrArg List.length he
      rw [List.length_append] at h1
      have := cuts_pos (a.drop f)
      omega
    have g0 : decide (((i : Nat) : Int) ≤ ((a.length : Nat) : Int)) = true := decide_eq_true (by omega)
    have gi : (decide (0 ≤ ((i : Nat) : Int)) && decide (((i : Nat) : Int) ≤ ((a.length : Nat) : Int))) = true := by
      rw [decide_eq_true (p := (0 : Int) ≤ ((i : Nat) : Int)) (by omega), decide_eq_true (by omega)]; rfl
    have gf : (decide (0 ≤ ((f : Nat) : Int)) && decide (((f : Nat) : Int) ≤ ((i : Nat) : Int))) = true := by
      rw [decide_eq_true (p := (0 : Int) ≤ ((f : Nat) : Int)) (by omega), decide_eq_true (by omega)]; rfl
    have gl : ∀ x : List UInt8, (decide ((out.length + [x].length) * 16 ≤ 140737488355328) && decide (out.length + [x].length ≤ 9223372036854775807)) = true := by
      intro x
      show (decide ((out.length + 1) * 16 ≤ 140737488355328) && decide (out.length + 1 ≤ 9223372036854775807)) = true
      rw [decide_eq_true (by omega), decide_eq_true (by omega)]; rfl
    have w : IntKind.wrap .i64 ((i : Int) + 1) = ((i + 1 : Nat) : Int) := by rw [wrap_small (by omega) (by omega)]; omega
    have hpc : (a.take i).drop f = (a.drop f).take (i - f) := List.drop_take
    have hm : a.length + 1 - ((i + 1 : Nat) : Int).toNat < a.length + 1 - ((i : Nat) : Int).toNat := by
      rw [Int.toNat_natCast, Int.toNat_natCast]; omega
    unfold spec_l01Cut_loop0_step
    rcases Nat.lt_or_ge i a.length with hlt | hge
    · have g1 : (((i : Nat) : Int) == ((a.length : Nat) : Int)) = false := by rw [beq_eq_false_iff_ne]; omega
      have hget : a.getD i 0 = a[i] := by rw [List.getD_eq_getElem?_getD, List.getElem?_eq_getElem hlt, Option.getD_some]
      have hdrop : a.drop f = (a.drop f).take (i - f) ++ a[i] :: a.drop (i + 1) := by
        have h1 : (a.drop f).drop (i - f) = a[i] :: a.drop (i + 1) := by
          rw [List.drop_drop, show f + (i - f) = i from by omega, List.drop_eq_getElem_cons hlt]
        have h2 := List.take_append_drop (i - f) (a.drop f)
        rw [h1] at h2
        exact h2.symm
      cases hb : (((a[i].toNat : Nat) : Int) == 10) with
      | true =>
        have hb := eq_of_beq hb
        have hb10 : a[i] = 10 := by
          apply UInt8.toNat_inj.1
          show a[i].toNat = 10
          omega
        refine ⟨.inl (((i + 1 : Nat) : Int), ((i + 1 : Nat) : Int), out ++ [(a.drop f).take (i - f)]), [169], ?_, .inl ⟨i + 1, i + 1, rfl, rfl, Nat.le_refl _, hlt, ?_, by simp⟩, hm⟩
        · refine (DT.get_yes g0).trans ((DT.get_no g1).trans ((DT.get_need (nat_in hlt)).trans ?_))
          simp only [Int.toNat_natCast, hget, hb]
          refine (DT.get_yes rfl).trans ((DT.get_need gi).trans ?_)
          refine (DT.get_need gf).trans ((DT.get_need (gl _)).trans ?_)
          simp only [w, hpc]
          rfl
        · show (out ++ [(a.drop f).take (i - f)]) ++ cuts (a.drop (i + 1)) = cuts a
          rw [List.append_assoc, ← he]
          congr 1
          rw [hb10] at hdrop
          conv => rhs; rw [hdrop]
          rw [cuts_app _ hno]
          rfl
      | false =>
        have hb' : a[i] ≠ 10 := by
          intro h
          rw [h] at hb
          exact absurd hb (by decide)
        refine ⟨.inl ((f : Int), ((i + 1 : Nat) : Int), out), [0], ?_, .inl ⟨f, i + 1, rfl, rfl, by omega, hlt, he, ?_⟩, hm⟩
        · refine (DT.get_yes g0).trans ((DT.get_no g1).trans ((DT.get_need (nat_in hlt)).trans ?_))
          simp only [Int.toNat_natCast, hget]
          refine (DT.get_no hb).trans ?_
          simp only [w]
          rfl
        · rw [hdrop]
          have hl : ((a.drop f).take (i - f)).length = i - f := by rw [List.length_take, List.length_drop]; omega
          rw [List.take_append, hl, List.take_of_length_le (by rw [hl]; omega), show i + 1 - f - (i - f) = 1 from by omega]
          intro hmem
          rcases List.mem_append.1 hmem with h | h
          · exact hno h
          · have h : 10 ∈ [a[i]] := h
            exact hb' (List.mem_singleton.1 h).symm
    · have hii : i = a.length := by omega
      subst hii
      have g1 : (((a.length : Nat) : Int) == ((a.length : Nat) : Int)) = true := by simp
      refine ⟨.inl (((a.length + 1 : Nat) : Int), ((a.length + 1 : Nat) : Int), out ++ [(a.drop f).take (a.length - f)]), [169], ?_, .inr ⟨rfl, ?_⟩, hm⟩
      · refine (DT.get_yes g0).trans ((DT.get_yes g1).trans ((DT.get_need gi).trans ?_))
        simp only [Int.toNat_natCast]
        refine (DT.get_need gf).trans ((DT.get_need (gl _)).trans ?_)
        simp only [w, hpc]
        rfl
      · show out ++ [(a.drop f).take (a.length - f)] = cuts a
        have hall : (a.drop f).take (a.length - f) = a.drop f := List.take_of_length_le (by rw [List.length_drop]; omega)
        rw [hall] at hno
        rw [hall, ← he, cuts_pure hno]
  · simp only at hi he
    subst hi
    have g0 : decide (((a.length + 1 : Nat) : Int) ≤ ((a.length : Nat) : Int)) = false := decide_eq_false (by omega)
    refine ⟨.inr out, [0], ?_, he⟩
    unfold spec_l01Cut_loop0_step
    exact (DT.get_no g0).trans rfl

theorem cut_eq (a : List UInt8) (ha : a.length ≤ 2 ^ 40) : spec_l01Cut_need a 10 = true ∧ spec_l01Cut a 10 = cuts a := by
  obtain ⟨h1, h2⟩ := cut_loop a ha
  have hv : spec_l01Cut a 10 = spec_l01Cut_loop0 (a, 10) (0, 0, []) := rfl
  refine ⟨?_, hv.trans h2⟩
  unfold spec_l01Cut_need spec_l01Cut_tree
  simp only [DT.ok, h1]

end Go.Proofs.YtcipkfndnkmjlaaDoor
