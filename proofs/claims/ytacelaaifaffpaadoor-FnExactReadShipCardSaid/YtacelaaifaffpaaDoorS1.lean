/- Plain law of a ship that is read, part 1: the parts of a text; words of eight digits: the program's and the reference's. -/
import Derived.Test.YtacelaaifaffpaaDoorGR
import Derived.Test.YtacelaaifaffpaaDoorEngX
import Derived.Test.YtacelaaifaffpaaDoorEngY
import Derived.Lib.Repeat
import Derived.Lib.ItoaNum
namespace Go.Proofs.YtacelaaifaffpaaDoor
set_option linter.unusedVariables false
set_option linter.unusedSimpArgs false

namespace C44

def cuts : List UInt8 → List (List UInt8)
  | [] => [[]]
  | b :: r => match b == 44 with
    | true => [] :: cuts r
    | false => match cuts r with
      | [] => [[b]]
      | c :: cs => (b :: c) :: cs

theorem cuts_len : ∀ s : List UInt8, (cuts s).length = s.count 44 + 1
  | [] => rfl
  | b :: r => by
    have ih := cuts_len r
    unfold cuts
    rw [List.count_cons]
    cases hb : b == 44 with
    | true => simp only [List.length_cons, ih, if_true]
    | false =>
      simp only
      cases hc : cuts r with
      | nil => rw [hc] at ih; simp at ih
      | cons c cs => rw [hc] at ih; simp only [List.length_cons] at ih ⊢; simpa using ih

theorem cuts_pure : ∀ {s : List UInt8}, 44 ∉ s → cuts s = [s]
  | [], _ => rfl
  | b :: r, h => by
    have hb : (b == 44) = false := by
      rw [beq_eq_false_iff_ne]
      exact fun e => h (by rw [e]; exact List.mem_cons_self ..)
    unfold cuts
    rw [hb, cuts_pure fun hr => h (List.mem_cons_of_mem _ hr)]

theorem cuts_app : ∀ {c : List UInt8} (r : List UInt8), 44 ∉ c → cuts (c ++ 44 :: r) = c :: cuts r
  | [], r, _ => rfl
  | b :: c, r, h => by
    have hb : (b == 44) = false := by
      rw [beq_eq_false_iff_ne]
      exact fun e => h (by rw [e]; exact List.mem_cons_self ..)
    show cuts (b :: (c ++ 44 :: r)) = _
    rw [cuts, hb, cuts_app r fun hr => h (List.mem_cons_of_mem _ hr)]

theorem index_cut : ∀ {s : List UInt8}, 44 ∈ s → ∃ m : Nat, Go.Lib.indexByte s 44 = (m : Int) ∧ m < s.length ∧ cuts s = s.take m :: cuts (s.drop (m + 1))
  | [], h => by cases h
  | b :: r, h => by
    cases hb : b == 44 with
    | true =>
      refine ⟨0, ?_, by simp, ?_⟩
      · unfold Go.Lib.indexByte
        rw [hb]
        rfl
      · show cuts (b :: r) = _
        rw [cuts, hb]
        rfl
    | false =>
      have hr : 44 ∈ r := by
        rcases List.mem_cons.1 h with e | e
        · rw [← e] at hb; cases hb
        · exact e
      obtain ⟨m, h1, h2, h3⟩ := index_cut hr
      refine ⟨m + 1, ?_, by simp; omega, ?_⟩
      · unfold Go.Lib.indexByte
        rw [hb, h1]
        have : ((m : Int) == -1) = false := by rw [beq_eq_false_iff_ne]; omega
        simp only [this, Bool.false_eq_true, if_false]
        omega
      · show cuts (b :: r) = _
        rw [cuts, hb, h3]
        rfl

theorem cuts_le (s : List UInt8) : (cuts s).length ≤ s.length + 1 := by
  rw [cuts_len]
  have := List.count_le_length (a := (44 : UInt8)) (l := s)
  omega
theorem cuts_pos (s : List UInt8) : 0 < (cuts s).length := by rw [cuts_len]; omega


theorem index_eq (s : List UInt8) : strings_Index_k44 s = Go.Lib.indexByte s 44 := by
  show internal_stringslite_Index_k44 s = _
  unfold internal_stringslite_Index_k44 internal_stringslite_Index_k44_tree
  simp only [DT.val]
  cases h : ([44] == s) with
  | true =>
    have h := eq_of_beq h
    subst h
    rfl
  | false => rfl

theorem split_loop (a : List UInt8) (N : Nat) (hN : N = (cuts a).length) (ha : a.length ≤ 2 ^ 40) (x : List (List UInt8)) (hx : x.length = N) :
    strings_genSplit_k44_k0_m1_loop0_ends (0, ((N - 1 : Nat) : Int)) (a, 0, x) = true ∧ (fun r : List UInt8 × Int × List (List UInt8) => r.2.1 = ((N - 1 : Nat) : Int) ∧ r.2.2.length = N ∧ r.2.2.take (N - 1) ++ [r.1] = cuts a) (strings_genSplit_k44_k0_m1_loop0 (0, ((N - 1 : Nat) : Int)) (a, 0, x)) := by
  have hNp : 0 < N := by rw [hN]; exact cuts_pos a
  have hNl : N ≤ a.length + 1 := by rw [hN]; exact cuts_le a
  refine loop_post (step := strings_genSplit_k44_k0_m1_loop0_step (0, ((N - 1 : Nat) : Int))) (fun s => ∃ i : Nat, s.2.1 = (i : Int) ∧ s.2.2.length = N ∧ s.1.length ≤ a.length ∧ s.2.2.take i ++ cuts s.1 = cuts a ∧ i + (cuts s.1).length = N) (fun s => N - s.2.1.toNat) (fun r => r.2.1 = ((N - 1 : Nat) : Int) ∧ r.2.2.length = N ∧ r.2.2.take (N - 1) ++ [r.1] = cuts a) ?_ (a, 0, x) ⟨0, rfl, hx, Nat.le_refl _, rfl, by show 0 + (cuts a).length = N; omega⟩
  rintro ⟨s, k, y⟩ ⟨i, hk, hy, hs, he, hi⟩
  simp only at hk hy hs he hi
  subst hk
  have hp := cuts_pos s
  unfold strings_genSplit_k44_k0_m1_loop0_step
  rcases Nat.lt_or_ge i (N - 1) with hlt | hge
  · have hc : 44 ∈ s := by
      have := cuts_len s
      have : 0 < s.count 44 := by omega
      exact List.count_pos_iff.1 this
    obtain ⟨m, h1, h2, h3⟩ := index_cut hc
    have e1 : decide (((i : Nat) : Int) < ((N - 1 : Nat) : Int)) = true := decide_eq_true (by omega)
    have e2 : decide (((m : Nat) : Int) < 0) = false := decide_eq_false (by omega)
    have w1 : IntKind.wrap .i64 ((m : Int) + 0) = ((m : Nat) : Int) := by rw [wrap_small (by omega) (by omega)]; omega
    have w2 : IntKind.wrap .i64 ((m : Int) + 1) = ((m + 1 : Nat) : Int) := by rw [wrap_small (by omega) (by omega)]; omega
    have e3 : (decide (0 ≤ ((m : Nat) : Int)) && decide (((m : Nat) : Int) ≤ ((s.length : Nat) : Int))) = true := by
      rw [decide_eq_true (p := (0 : Int) ≤ ((m : Nat) : Int)) (by omega), decide_eq_true (by omega)]; rfl
    have e4 : (decide (0 ≤ ((i : Nat) : Int)) && decide (((i : Nat) : Int) < ((y.length : Nat) : Int))) = true := nat_in (by omega)
    have e5 : decide (i < y.length) = true := decide_eq_true (by omega)
    have e6 : (decide (0 ≤ ((m + 1 : Nat) : Int)) && decide (((m + 1 : Nat) : Int) ≤ ((s.length : Nat) : Int))) = true := by
      rw [decide_eq_true (p := (0 : Int) ≤ ((m + 1 : Nat) : Int)) (by omega), decide_eq_true (by omega)]; rfl
    have w3 : IntKind.wrap .i64 ((i : Int) + 1) = ((i + 1 : Nat) : Int) := nat_next (n := N) (by omega) (by omega)
    refine ⟨.inl (s.drop (m + 1), ((i + 1 : Nat) : Int), y.set i (s.take m)), [0], ?_, ⟨i + 1, rfl, by rw [List.length_set]; exact hy, ?_, ?_, ?_⟩, ?_⟩
    · refine (DT.get_yes e1).trans ?_
      simp only [index_eq, h1]
      refine (DT.get_no e2).trans ?_
      simp only [w1, w2, w3]
      refine (DT.get_need e3).trans ((DT.get_need e4).trans ?_)
      simp only [Int.toNat_natCast]
      refine (DT.get_need e5).trans ((DT.get_need e6).trans ?_)
      simp only [List.take_length, List.drop_zero]
      rfl
    · show (s.drop (m + 1)).length ≤ _
      rw [List.length_drop]; omega
    · show (y.set i (s.take m)).take (i + 1) ++ cuts (s.drop (m + 1)) = cuts a
      have hset : (y.set i (s.take m)).take (i + 1) = y.take i ++ [s.take m] := by
        rw [List.take_set, List.take_succ_eq_append_getElem (by omega), List.set_append_right _ _ (by rw [List.length_take]; omega)]
        congr 1
        rw [List.length_take, Nat.min_eq_left (by omega), Nat.sub_self]
        rfl
      rw [hset, List.append_assoc, ← he, h3]
      rfl
    · show i + 1 + (cuts (s.drop (m + 1))).length = N
      rw [h3] at hi
      simp only [List.length_cons] at hi
      omega
    · show N - ((i + 1 : Nat) : Int).toNat < N - ((i : Nat) : Int).toNat
      rw [Int.toNat_natCast, Int.toNat_natCast]
      omega
  · have hiN : i = N - 1 := by omega
    have hone : (cuts s).length = 1 := by omega
    have hc : 44 ∉ s := by
      have := cuts_len s
      exact fun h => by have := List.count_pos_iff.2 h; omega
    subst hiN
    have e1 : decide (((N - 1 : Nat) : Int) < ((N - 1 : Nat) : Int)) = false := nat_not
    refine ⟨.inr (s, ((N - 1 : Nat) : Int), y), [0], (DT.get_no e1).trans rfl, rfl, hy, ?_⟩
    rw [← he, cuts_pure hc]

theorem take_set_last {α : Type} {y : List α} {n : Nat} (x : α) (h : y.length = n) (hn : 0 < n) : (y.set (n - 1) x).take n = y.take (n - 1) ++ [x] := by
  have e : n = (n - 1) + 1 := by omega
  have hset : (y.set (n - 1) x).take ((n - 1) + 1) = y.take (n - 1) ++ [x] := by
    rw [List.take_set, List.take_succ_eq_append_getElem (by omega), List.set_append_right _ _ (by rw [List.length_take]; omega)]
    congr 1
    rw [List.length_take, Nat.min_eq_left (by omega), Nat.sub_self]
    rfl
  rw [← e] at hset
  exact hset

theorem split_eq (a : List UInt8) (ha : a.length ≤ 2 ^ 40) : strings_Split_k44_need a = true ∧ strings_Split_k44 a = cuts a := by
  obtain ⟨N, hN⟩ : ∃ N, N = (cuts a).length := ⟨_, rfl⟩
  have hNp : 0 < N := by rw [hN]; exact cuts_pos a
  have hNl : N ≤ a.length + 1 := by rw [hN]; exact cuts_le a
  have hcount : strings_Count_k44 a = ((N - 1 : Nat) : Int) := by
    show ((Go.Lib.countByte a 44 : Nat) : Int) = _
    rw [hN, cuts_len]
    rfl
  have w1 : IntKind.wrap .i64 (((N - 1 : Nat) : Int) + 1) = ((N : Nat) : Int) := by rw [wrap_small (by omega) (by omega)]; omega
  have w2 : IntKind.wrap .i64 (((a.length : Nat) : Int) + 1) = ((a.length + 1 : Nat) : Int) := by rw [wrap_small (by omega) (by omega)]; omega
  have w3 : (bif decide (((a.length + 1 : Nat) : Int) < ((N : Nat) : Int)) then ((a.length + 1 : Nat) : Int) else ((N : Nat) : Int)) = ((N : Nat) : Int) := by
    rw [decide_eq_false (by omega)]; rfl
  have w4 : IntKind.wrap .i64 (((N : Nat) : Int) - 1) = ((N - 1 : Nat) : Int) := by rw [wrap_small (by omega) (by omega)]; omega
  have e1 : (decide (0 ≤ ((N : Nat) : Int)) && decide (((N : Nat) : Int) ≤ ((N : Nat) : Int)) && decide (16 * ((N : Nat) : Int) ≤ 281474976710656) && decide (((N : Nat) : Int) ≤ 9223372036854775807)) = true := by
    rw [decide_eq_true (p := (0 : Int) ≤ ((N : Nat) : Int)) (by omega), decide_eq_true (p := ((N : Nat) : Int) ≤ ((N : Nat) : Int)) (by omega), decide_eq_true (p := 16 * ((N : Nat) : Int) ≤ 281474976710656) (by omega), decide_eq_true (by omega)]; rfl
  obtain ⟨l1, l2, l3, l4⟩ := split_loop a N hN ha (List.replicate N []) List.length_replicate
  obtain ⟨R, hR⟩ : ∃ R, R = strings_genSplit_k44_k0_m1_loop0 (0, ((N - 1 : Nat) : Int)) (a, 0, List.replicate N []) := ⟨_, rfl⟩
  rw [← hR] at l2 l3 l4
  have key : (strings_genSplit_k44_k0_m1_tree a).get = some (cuts a) := by
    unfold strings_genSplit_k44_k0_m1_tree
    refine DT.get_skip.trans (DT.get_skip.trans (DT.get_skip.trans ?_))
    simp only [hcount, w1, w2, w3]
    refine (DT.get_need e1).trans ?_
    simp only [w4, Int.toNat_natCast]
    refine (DT.get_need l1).trans ?_
    simp only [← hR, l2, l3, Int.toNat_natCast]
    refine (DT.get_need (nat_in (by omega))).trans ((DT.get_need (decide_eq_true (by omega))).trans ?_)
    simp only [List.length_set, l3, w1]
    refine (DT.get_need (by rw [decide_eq_true (p := (0 : Int) ≤ ((N : Nat) : Int)) (by omega), decide_eq_true (by omega)]; rfl)).trans ?_
    rw [DT.get_leaf, Int.toNat_natCast, Nat.sub_zero, take_set_last _ l3 hNp, l4]
  obtain ⟨g1, g2⟩ := DT.of_get key
  have hs : strings_Split_k44 a = strings_genSplit_k44_k0_m1 a := rfl
  refine ⟨?_, hs.trans g2⟩
  unfold strings_Split_k44_need strings_Split_k44_tree
  have g1 : strings_genSplit_k44_k0_m1_need a = true := g1
  simp only [DT.ok, g1]


theorem cut_loop (a : List UInt8) (ha : a.length ≤ 2 ^ 40) : spec_l01Cut_loop0_ends (a, 44) (0, 0, []) = true ∧ spec_l01Cut_loop0 (a, 44) (0, 0, []) = cuts a := by
  refine loop_post (step := spec_l01Cut_loop0_step (a, 44)) (fun s => (∃ f i : Nat, s.1 = (f : Int) ∧ s.2.1 = (i : Int) ∧ f ≤ i ∧ i ≤ a.length ∧ s.2.2 ++ cuts (a.drop f) = cuts a ∧ 44 ∉ (a.drop f).take (i - f)) ∨ (s.2.1 = ((a.length + 1 : Nat) : Int) ∧ s.2.2 = cuts a)) (fun s => a.length + 1 - s.2.1.toNat) (fun r => r = cuts a) ?_ (0, 0, []) (.inl ⟨0, 0, rfl, rfl, Nat.le_refl _, Nat.zero_le _, rfl, by simp⟩)
  have hcl := cuts_le a
  rintro ⟨kf, ki, out⟩ hinv
  rcases hinv with ⟨f, i, hf, hi, hfi, hil, he, hno⟩ | ⟨hi, he⟩
  · simp only at hf hi he
    subst hf hi
    have hol : out.length + 1 ≤ a.length + 1 := by
      have h1 := congrArg List.length he
      rw [List.length_append] at h1
      have := cuts_pos (a.drop f)
      omega
    have g0 : decide (((i : Nat) : Int) ≤ ((a.length : Nat) : Int)) = true := decide_eq_true (by omega)
    have gi : (decide (0 ≤ ((i : Nat) : Int)) && decide (((i : Nat) : Int) ≤ ((a.length : Nat) : Int))) = true := by
      rw [decide_eq_true (p := (0 : Int) ≤ ((i : Nat) : Int)) (by omega), decide_eq_true (by omega)]; rfl
    have gf : (decide (0 ≤ ((f : Nat) : Int)) && decide (((f : Nat) : Int) ≤ ((i : Nat) : Int))) = true := by
      rw [decide_eq_true (p := (0 : Int) ≤ ((f : Nat) : Int)) (by omega), decide_eq_true (by omega)]; rfl
    have gl : ∀ x : List UInt8, (decide ((out.length + [x].length) * 16 ≤ 140737488355328) && decide (out.length + [x].length ≤ 9223372036854775807)) = true := by
      intro x
      show (decide ((out.length + 1) * 16 ≤ 140737488355328) && decide (out.length + 1 ≤ 9223372036854775807)) = true
      rw [decide_eq_true (by omega), decide_eq_true (by omega)]; rfl
    have w : IntKind.wrap .i64 ((i : Int) + 1) = ((i + 1 : Nat) : Int) := by rw [wrap_small (by omega) (by omega)]; omega
    have hpc : (a.take i).drop f = (a.drop f).take (i - f) := List.drop_take
    have hm : a.length + 1 - ((i + 1 : Nat) : Int).toNat < a.length + 1 - ((i : Nat) : Int).toNat := by
      rw [Int.toNat_natCast, Int.toNat_natCast]; omega
    unfold spec_l01Cut_loop0_step
    rcases Nat.lt_or_ge i a.length with hlt | hge
    · have g1 : (((i : Nat) : Int) == ((a.length : Nat) : Int)) = false := by rw [beq_eq_false_iff_ne]; omega
      have hget : a.getD i 0 = a[i] := by rw [List.getD_eq_getElem?_getD, List.getElem?_eq_getElem hlt, Option.getD_some]
      have hdrop : a.drop f = (a.drop f).take (i - f) ++ a[i] :: a.drop (i + 1) := by
        have h1 : (a.drop f).drop (i - f) = a[i] :: a.drop (i + 1) := by
          rw [List.drop_drop, show f + (i - f) = i from by omega, List.drop_eq_getElem_cons hlt]
        have h2 := List.take_append_drop (i - f) (a.drop f)
        rw [h1] at h2
        exact h2.symm
      cases hb : (((a[i].toNat : Nat) : Int) == 44) with
      | true =>
        have hb := eq_of_beq hb
        have hb10 : a[i] = 44 := by
          apply UInt8.toNat_inj.1
          show a[i].toNat = 44
          omega
        refine ⟨.inl (((i + 1 : Nat) : Int), ((i + 1 : Nat) : Int), out ++ [(a.drop f).take (i - f)]), [169], ?_, .inl ⟨i + 1, i + 1, rfl, rfl, Nat.le_refl _, hlt, ?_, by simp⟩, hm⟩
        · refine (DT.get_yes g0).trans ((DT.get_no g1).trans ((DT.get_need (nat_in hlt)).trans ?_))
          simp only [Int.toNat_natCast, hget, hb]
          refine (DT.get_yes rfl).trans ((DT.get_need gi).trans ?_)
          refine (DT.get_need gf).trans ((DT.get_need (gl _)).trans ?_)
          simp only [w, hpc]
          rfl
        · show (out ++ [(a.drop f).take (i - f)]) ++ cuts (a.drop (i + 1)) = cuts a
          rw [List.append_assoc, ← he]
          congr 1
          rw [hb10] at hdrop
          conv => rhs; rw [hdrop]
          rw [cuts_app _ hno]
          rfl
      | false =>
        have hb' : a[i] ≠ 44 := by
          intro h
          rw [h] at hb
          exact absurd hb (by decide)
        refine ⟨.inl ((f : Int), ((i + 1 : Nat) : Int), out), [0], ?_, .inl ⟨f, i + 1, rfl, rfl, by omega, hlt, he, ?_⟩, hm⟩
        · refine (DT.get_yes g0).trans ((DT.get_no g1).trans ((DT.get_need (nat_in hlt)).trans ?_))
          simp only [Int.toNat_natCast, hget]
          refine (DT.get_no hb).trans ?_
          simp only [w]
          rfl
        · rw [hdrop]
          have hl : ((a.drop f).take (i - f)).length = i - f := by rw [List.length_take, List.length_drop]; omega
          rw [List.take_append, hl, List.take_of_length_le (by rw [hl]; omega), show i + 1 - f - (i - f) = 1 from by omega]
          intro hmem
          rcases List.mem_append.1 hmem with h | h
          · exact hno h
          · have h : 44 ∈ [a[i]] := h
            exact hb' (List.mem_singleton.1 h).symm
    · have hii : i = a.length := by omega
      subst hii
      have g1 : (((a.length : Nat) : Int) == ((a.length : Nat) : Int)) = true := by simp
      refine ⟨.inl (((a.length + 1 : Nat) : Int), ((a.length + 1 : Nat) : Int), out ++ [(a.drop f).take (a.length - f)]), [169], ?_, .inr ⟨rfl, ?_⟩, hm⟩
      · refine (DT.get_yes g0).trans ((DT.get_yes g1).trans ((DT.get_need gi).trans ?_))
        simp only [Int.toNat_natCast]
        refine (DT.get_need gf).trans ((DT.get_need (gl _)).trans ?_)
        simp only [w, hpc]
        rfl
      · show out ++ [(a.drop f).take (a.length - f)] = cuts a
        have hall : (a.drop f).take (a.length - f) = a.drop f := List.take_of_length_le (by rw [List.length_drop]; omega)
        rw [hall] at hno
        rw [hall, ← he, cuts_pure hno]
  · simp only at hi he
    subst hi
    have g0 : decide (((a.length + 1 : Nat) : Int) ≤ ((a.length : Nat) : Int)) = false := decide_eq_false (by omega)
    refine ⟨.inr out, [0], ?_, he⟩
    unfold spec_l01Cut_loop0_step
    exact (DT.get_no g0).trans rfl

theorem cut_eq (a : List UInt8) (ha : a.length ≤ 2 ^ 40) : spec_l01Cut_need a 44 = true ∧ spec_l01Cut a 44 = cuts a := by
  obtain ⟨h1, h2⟩ := cut_loop a ha
  have hv : spec_l01Cut a 44 = spec_l01Cut_loop0 (a, 44) (0, 0, []) := rfl
  refine ⟨?_, hv.trans h2⟩
  unfold spec_l01Cut_need spec_l01Cut_tree
  simp only [DT.ok, h1]

theorem part_len : ∀ (a : List UInt8) {w : List UInt8}, w ∈ cuts a → w.length ≤ a.length
  | [], w, h => by simp [cuts] at h; subst h; simp
  | b :: r, w, h => by
    unfold cuts at h
    cases hb : b == 44 with
    | true =>
      rw [hb] at h
      simp only [List.mem_cons] at h
      rcases h with rfl | h
      · simp
      · exact Nat.le_trans (part_len r h) (by simp)
    | false =>
      rw [hb] at h
      simp only at h
      cases hc : cuts r with
      | nil => rw [hc] at h; simp only [List.mem_singleton] at h; subst h; simp
      | cons c cs =>
        rw [hc] at h
        simp only [List.mem_cons] at h
        rcases h with rfl | h
        · have := part_len r (w := c) (by rw [hc]; exact List.mem_cons_self ..)
          simp; omega
        · have := part_len r (w := w) (by rw [hc]; exact List.mem_cons_of_mem _ h)
          simp; omega
end C44

theorem bits_eq (x : Nat) : impl_BitsOf_need x = true ∧ spec_l01Bits_need x = true ∧ impl_BitsOf x = spec_l01Bits x ∧ (x < 2 ^ 32 → 0 ≤ spec_l01Bits x ∧ spec_l01Bits x < 2 ^ 32) := by
  have h : impl_BitsOf_tree x = spec_l01Bits_tree x := rfl
  have h2 : spec_l01Bits_need x = true ∧ (x < 2 ^ 32 → 0 ≤ spec_l01Bits x ∧ spec_l01Bits x < 2 ^ 32) := by
    unfold spec_l01Bits_need spec_l01Bits spec_l01Bits_tree
    simp only [fne_self]
    cases isNaN .f32 x with
    | true => exact ⟨rfl, fun _ => by simp only [DT.val]; decide⟩
    | false =>
      refine ⟨rfl, fun hx => ?_⟩
      simp only [DT.val]
      rw [wrap_small (by omega) (by omega)]
      omega
  refine ⟨?_, h2.1, ?_, h2.2⟩
  · unfold impl_BitsOf_need
    rw [h]
    exact h2.1
  · unfold impl_BitsOf spec_l01Bits
    rw [h]

/-- The bits of a number, and its eight digits. -/
def nb (x : Nat) : Nat := (spec_l01Bits x).toNat
def hexW (x : Nat) : List UInt8 := hexTail 8 (nb x)
theorem hexW_length (x : Nat) : (hexW x).length = 8 := hexTail_length _ _

theorem nb_eq {x : Nat} (hx : F32 x) : spec_l01Bits x = ((nb x : Nat) : Int) ∧ nb x < 4294967296 := by
  obtain ⟨h0, h1⟩ := (bits_eq x).2.2.2 hx
  unfold nb
  omega

theorem hex_impl (x : Nat) (hx : F32 x) : impl_digits_need x = true ∧ impl_digits x = hexW x := by
  obtain ⟨hb, hu⟩ := nb_eq hx
  obtain ⟨h8, hp⟩ := hex_pad hu
  have hlen := hexText_length (nb x)
  have hpos := hexLen_pos (nb x)
  have key : (impl_digits_tree x).get = some (hexW x) := by
    unfold impl_digits_tree
    have e3 : IntKind.wrap .i64 (8 - ((List.length (hexText (nb x)) : Nat) : Int)) = ((8 - hexLen (nb x) : Nat) : Int) := by
      rw [hlen, wrap_small (by omega) (by omega)]
      omega
    have c1 : (decide ((0 : Int) ≤ ((nb x : Nat) : Int)) && decide (((nb x : Nat) : Int) ≤ 9223372036854775807)) = true := by
      rw [Bool.and_eq_true, decide_eq_true_eq, decide_eq_true_eq]; omega
    have c2 : (decide ((0 : Int) ≤ ((8 - hexLen (nb x) : Nat) : Int)) && decide (((8 - hexLen (nb x) : Nat) : Int) ≤ 9223372036854775807) && decide (List.length [48] * (8 - hexLen (nb x)) ≤ 140737488355328)) = true := by
      simp only [Bool.and_eq_true, decide_eq_true_eq, List.length_singleton]; omega
    have er : Go.Lib.repeatL ([48] : List UInt8) (8 - hexLen (nb x)) = List.replicate (8 - hexLen (nb x)) 48 := by
      generalize 8 - hexLen (nb x) = k
      induction k with
      | zero => rfl
      | succ k ih => rw [Go.Lib.repeatL, ih, List.replicate_succ]; rfl
    have c3 : decide (List.length (List.replicate (8 - hexLen (nb x)) (48 : UInt8)) + List.length (hexText (nb x)) ≤ 9223372036854775807) = true := by
      rw [decide_eq_true_eq, List.length_replicate, hlen]; omega
    simp only [DT.get, (bits_eq x).1, (bits_eq x).2.2.1, hb, c1, Int.toNat_natCast, e3, c2, er, c3, hp]
    rfl
  exact DT.of_get key

/-! ## Digits that are read -/

/-- The value of a digit as it is written. -/
def lowV (c : UInt8) : Option Nat :=
  if 48 ≤ c.toNat ∧ c.toNat ≤ 57 then some (c.toNat - 48) else
  if 97 ≤ c.toNat ∧ c.toNat ≤ 102 then some (c.toNat - 87) else none

theorem low_hex (c : UInt8) (d : Nat) (h : lowV c = some d) : hexV c = some d ∧ d < 16 ∧ hexD d = c := by
  have key : ∀ n : Fin 256, ∀ d, lowV (UInt8.ofNat n.val) = some d → hexV (UInt8.ofNat n.val) = some d ∧ d < 16 ∧ hexD d = UInt8.ofNat n.val := by
    have k2 : ∀ n : Fin 256, (match lowV (UInt8.ofNat n.val) with
      | none => true
      | some d => decide (hexV (UInt8.ofNat n.val) = some d) && (decide (d < 16) && decide (hexD d = UInt8.ofNat n.val))) = true := by decide +kernel
    intro n d hd
    have := k2 n
    rw [hd] at this
    simp only [Bool.and_eq_true, decide_eq_true_eq] at this
    exact this
  have hc : UInt8.ofNat (⟨c.toNat, c.toNat_lt⟩ : Fin 256).val = c := by simp
  have := key ⟨c.toNat, c.toNat_lt⟩ d
  rw [hc] at this
  exact this h

theorem low_of (d : Nat) (h : d < 16) : lowV (hexD d) = some d := by
  have key : ∀ d : Fin 16, lowV (hexD d.val) = some d.val := by decide +kernel
  exact key ⟨d, h⟩

def foldH : Nat → List UInt8 → Option Nat
  | acc, [] => some acc
  | acc, c :: r => match lowV c with
    | none => none
    | some d => foldH (16 * acc + d) r

theorem foldH_bound : ∀ (l : List UInt8) (acc n : Nat), foldH acc l = some n → n / 16 ^ l.length = acc ∧ hexTail l.length n = l
  | [], acc, n, h => by simp only [foldH, Option.some.injEq] at h; subst h; exact ⟨by simp, rfl⟩
  | c :: r, acc, n, h => by
    unfold foldH at h
    split at h
    · cases h
    · rename_i d hd
      obtain ⟨_, hd16, hc⟩ := low_hex c d hd
      obtain ⟨h1, h2⟩ := foldH_bound r _ n h
      rw [List.length_cons]
      refine ⟨?_, ?_⟩
      · rw [Nat.pow_succ, ← Nat.div_div_eq_div_mul, h1]
        omega
      · rw [hexTail, h1, h2, show (16 * acc + d) % 16 = d from by omega, hc]

theorem foldH_tail (u : Nat) : ∀ (k acc : Nat), foldH acc (hexTail k u) = some (acc * 16 ^ k + u % 16 ^ k)
  | 0, acc => by simp [hexTail, foldH, Nat.mod_one]
  | k + 1, acc => by
    unfold hexTail foldH
    rw [low_of _ (Nat.mod_lt _ (by decide))]
    simp only
    rw [foldH_tail u k]
    congr 1
    have h1 : u % 16 ^ (k + 1) = u / 16 ^ k % 16 * 16 ^ k + u % 16 ^ k := by
      rw [Nat.pow_succ, Nat.mod_mul, Nat.mul_comm (u / 16 ^ k % 16)]
      omega
    rw [h1, Nat.pow_succ, Nat.add_mul]
    rw [show acc * (16 ^ k * 16) = 16 * acc * 16 ^ k from by rw [Nat.mul_comm (16 ^ k) 16, ← Nat.mul_assoc, Nat.mul_comm acc 16]]
    omega

theorem foldH_lt {l : List UInt8} {n : Nat} (h : foldH 0 l = some n) : n < 16 ^ l.length := by
  have := (foldH_bound l 0 n h).1
  exact (Nat.div_eq_zero_iff_lt (Nat.pow_pos (by decide))).1 this

theorem parse_fold : ∀ (l : List UInt8) (acc n : Nat), foldH acc l = some n → (acc + 1) * 16 ^ l.length ≤ 4294967296 → parse16 acc l = .ok n
  | [], acc, n, h, _ => by simp only [foldH, Option.some.injEq] at h; subst h; rfl
  | c :: r, acc, n, h, hb => by
    unfold foldH at h
    split at h
    · cases h
    · rename_i d hd
      obtain ⟨hv, hd16, _⟩ := low_hex c d hd
      rw [List.length_cons, Nat.pow_succ] at hb
      have hp : 1 ≤ 16 ^ r.length := Nat.pow_pos (by decide)
      have hb2 : (acc * 16 + 16) * 16 ^ r.length ≤ 4294967296 := by
        rw [show (acc * 16 + 16) = (acc + 1) * 16 from by omega, Nat.mul_assoc, Nat.mul_comm 16]
        exact hb
      have hb3 : (acc * 16 + d + 1) * 16 ^ r.length ≤ 4294967296 := Nat.le_trans (Nat.mul_le_mul_right _ (by omega)) hb2
      have hb4 : acc * 16 + d + 1 ≤ 4294967296 := Nat.le_trans (Nat.le_mul_of_pos_right _ hp) hb3
      unfold parse16
      rw [hv]
      show (if _ then _ else _) = _
      rw [if_neg (by omega)]
      refine parse_fold r (acc * 16 + d) n ?_ hb3
      rw [Nat.mul_comm acc 16]
      exact h

/-- A word of eight digits that is a number's. -/
def wordP (s : List UInt8) : Option Nat := match decide (s.length = 8) with
  | false => none
  | true => match foldH 0 s with
    | none => none
    | some n => bif nb (canon .f32 n) == n then some (canon .f32 n) else none

theorem canon_lt {n : Nat} (h : n ≤ 4294967295) : F32 (canon .f32 n) := canon_f32 (b := n) (by unfold Lit.wf; exact decide_eq_true (by omega))

theorem read_need (s : List UInt8) (hs : s.length ≤ 2 ^ 40) : (decide (List.length s ≤ 281474976710656) && impl_digits_need (canon .f32 (valP (parseS s)))) = true := by
  rw [(hex_impl _ (canon_lt (valS_lt s))).1, Bool.and_true, decide_eq_true_eq]
  omega

theorem read_val (s : List UInt8) : (readD s).2 = (wordP s).isSome ∧ ∀ x, wordP s = some x → (readD s).1 = x := by
  have hx := canon_lt (valS_lt s)
  have hd := (hex_impl _ hx).2
  have hnb := (nb_eq hx).2
  have h2 : (readD s).2 = (okP (parseS s) && (hexW (canon .f32 (valP (parseS s))) == s)) := by unfold readD; rw [hd]
  cases h8 : decide (s.length = 8) with
  | false =>
    have hw : wordP s = none := by unfold wordP; rw [h8]
    have hne : (hexW (canon .f32 (valP (parseS s))) == s) = false := by
      rw [beq_eq_false_iff_ne]
      intro e
      have := hexW_length (canon .f32 (valP (parseS s)))
      rw [e] at this
      exact of_decide_eq_false h8 this
    rw [h2, hw, hne, Bool.and_false]
    exact ⟨rfl, fun x h => by cases h⟩
  | true =>
    have hl := of_decide_eq_true h8
    cases hf : foldH 0 s with
    | none =>
      have hw : wordP s = none := by unfold wordP; rw [h8]; simp only [hf]
      have hne : (hexW (canon .f32 (valP (parseS s))) == s) = false := by
        rw [beq_eq_false_iff_ne]
        intro e
        have := foldH_tail (nb (canon .f32 (valP (parseS s)))) 8 0
        unfold hexW at e
        rw [e, hf] at this
        cases this
      rw [h2, hw, hne, Bool.and_false]
      exact ⟨rfl, fun x h => by cases h⟩
    | some n =>
      have hp : parseS s = .ok n := by
        have : parse16 0 s = .ok n := parse_fold s 0 n hf (by rw [hl]; decide)
        unfold parseS
        split
        · simp at hl
        · exact this
      have hn : n < 4294967296 := by
        have := foldH_lt hf
        rw [hl] at this
        exact Nat.lt_of_lt_of_le this (by decide)
      have hv : valP (parseS s) = n := by rw [hp]; rfl
      have hs : hexTail 8 n = s := by
        have := (foldH_bound s 0 n hf).2
        rwa [hl] at this
      rw [hv] at h2 hnb
      have heq : (hexW (canon .f32 n) == s) = (nb (canon .f32 n) == n) := by
        rw [Bool.eq_iff_iff, beq_iff_eq, beq_iff_eq]
        constructor
        · intro e
          have h1 := foldH_tail (nb (canon .f32 n)) 8 0
          unfold hexW at e
          rw [e, hf] at h1
          have h1 := Option.some.inj h1
          rw [Nat.mod_eq_of_lt (Nat.lt_of_lt_of_le hnb (by decide))] at h1
          omega
        · intro e
          unfold hexW
          rw [e]
          exact hs
      have hw : wordP s = bif nb (canon .f32 n) == n then some (canon .f32 n) else none := by unfold wordP; rw [h8]; simp only [hf]
      rw [h2, hw, heq, hp]
      show (true && _) = _ ∧ _
      cases hq : nb (canon .f32 n) == n with
      | false => exact ⟨rfl, fun x h => by cases h⟩
      | true =>
        refine ⟨rfl, fun x h => ?_⟩
        simp only [cond_true, Option.some.injEq] at h
        subst h
        unfold readD
        rw [hp]
        rfl

theorem u8_wrap (n : Int) : IntKind.wrap .u8 n = n % 256 := rfl

theorem chars_round (w : List UInt8) (k acc : Nat) (h8 : w.length = 8) (hk : k < 8) (ha : acc < 16 ^ 8) :
    ∃ fl, (spec_l01Digits_loop0_step w (((acc : Nat) : Int), ((k : Nat) : Int))).get = some ((match lowV (w.getD k 0) with
      | none => .inr (.inl 0)
      | some d => .inl (((16 * acc + d : Nat) : Int), ((k + 1 : Nat) : Int))), fl) := by
  have hc := (w.getD k 0).toNat_lt
  have hn : (16 : Nat) ^ 8 = 4294967296 := by decide
  rw [hn] at ha
  have kin : decide (((k : Nat) : Int) < ((List.length w : Nat) : Int)) = true := decide_eq_true (by omega)
  have hw3 : IntKind.wrap .i64 (((k : Nat) : Int) + 1) = ((k + 1 : Nat) : Int) := by rw [wrap_small (by omega) (by omega)]; omega
  have hw4 : IntKind.wrap .i64 (16 * ((acc : Nat) : Int)) = 16 * ((acc : Nat) : Int) := wrap_small (by omega) (by omega)
  generalize hC : (w.getD k 0).toNat = c at hc
  have hlow : lowV (w.getD k 0) = if 48 ≤ c ∧ c ≤ 57 then some (c - 48) else if 97 ≤ c ∧ c ≤ 102 then some (c - 87) else none := by unfold lowV; rw [hC]
  rw [hlow]
  unfold spec_l01Digits_loop0_step
  by_cases h1 : 48 ≤ c ∧ c ≤ 57
  · rw [if_pos h1]
    have d1 : decide (((c : Nat) : Int) ≥ 48) = true := decide_eq_true (by omega)
    have d2 : decide (((c : Nat) : Int) ≤ 57) = true := decide_eq_true (by omega)
    have d3 : decide (((c : Nat) : Int) ≥ 97) = false := decide_eq_false (by omega)
    have e1 : IntKind.wrap .i64 (IntKind.wrap .u8 (((c : Nat) : Int) - 48)) = ((c - 48 : Nat) : Int) := by rw [u8_wrap, wrap_small (by omega) (by omega)]; omega
    have d4 : decide (((c - 48 : Nat) : Int) < 0) = false := decide_eq_false (by omega)
    have e2 : IntKind.wrap .i64 (16 * ((acc : Nat) : Int) + ((c - 48 : Nat) : Int)) = ((16 * acc + (c - 48) : Nat) : Int) := by rw [wrap_small (by omega) (by omega)]; omega
    refine ⟨[], ?_⟩
    simp only [DT.get, nat_ge, Bool.and_self, Int.toNat_natCast, kin, hC, d1, d2, d3, e1, d4, hw4, e2, hw3]
  · rw [if_neg h1]
    by_cases h2 : 97 ≤ c ∧ c ≤ 102
    · rw [if_pos h2]
      have d1 : decide (((c : Nat) : Int) ≥ 48) = true := decide_eq_true (by omega)
      have d2 : decide (((c : Nat) : Int) ≤ 57) = false := decide_eq_false (by omega)
      have d3 : decide (((c : Nat) : Int) ≥ 97) = true := decide_eq_true (by omega)
      have d5 : decide (((c : Nat) : Int) ≤ 102) = true := decide_eq_true (by omega)
      have e1 : IntKind.wrap .i64 (IntKind.wrap .i64 (IntKind.wrap .u8 (((c : Nat) : Int) - 97)) + 10) = ((c - 87 : Nat) : Int) := by
        rw [u8_wrap, wrap_small (n := (((c : Nat) : Int) - 97) % 256) (by omega) (by omega), wrap_small (by omega) (by omega)]; omega
      have d4 : decide (((c - 87 : Nat) : Int) < 0) = false := decide_eq_false (by omega)
      have e2 : IntKind.wrap .i64 (16 * ((acc : Nat) : Int) + ((c - 87 : Nat) : Int)) = ((16 * acc + (c - 87) : Nat) : Int) := by rw [wrap_small (by omega) (by omega)]; omega
      refine ⟨[], ?_⟩
      simp only [DT.get, nat_ge, Bool.and_self, Int.toNat_natCast, kin, hC, d1, d2, d3, d5, e1, d4, hw4, e2, hw3]
    · rw [if_neg h2]
      refine ⟨[], ?_⟩
      by_cases h3 : 48 ≤ c
      · have d1 : decide (((c : Nat) : Int) ≥ 48) = true := decide_eq_true (by omega)
        have d2 : decide (((c : Nat) : Int) ≤ 57) = false := decide_eq_false (by omega)
        by_cases h4 : 97 ≤ c
        · have d3 : decide (((c : Nat) : Int) ≥ 97) = true := decide_eq_true (by omega)
          have d5 : decide (((c : Nat) : Int) ≤ 102) = false := decide_eq_false (by omega)
          simp only [DT.get, nat_ge, Bool.and_self, Int.toNat_natCast, kin, hC, d1, d2, d3, d5]
        · have d3 : decide (((c : Nat) : Int) ≥ 97) = false := decide_eq_false (by omega)
          simp only [DT.get, nat_ge, Bool.and_self, Int.toNat_natCast, kin, hC, d1, d2, d3]
      · have d1 : decide (((c : Nat) : Int) ≥ 48) = false := decide_eq_false (by omega)
        have d3 : decide (((c : Nat) : Int) ≥ 97) = false := decide_eq_false (by omega)
        simp only [DT.get, nat_ge, Bool.and_self, Int.toNat_natCast, kin, hC, d1, d3]

def outH (w : List UInt8) : Nat ⊕ Int := match foldH 0 w with
  | none => .inl 0
  | some n => .inr ((n : Nat) : Int)

theorem foldH_drop {w : List UInt8} {k acc : Nat} (hk : k < w.length) : foldH acc (w.drop k) = match lowV (w.getD k 0) with
    | none => none
    | some d => foldH (16 * acc + d) (w.drop (k + 1)) := by
  rw [List.drop_eq_getElem_cons hk, List.getD_eq_getElem?_getD, List.getElem?_eq_getElem hk]
  rfl

theorem chars_spec (w : List UInt8) (h8 : w.length = 8) : spec_l01Digits_loop0_ends w (0, 0) = true ∧ spec_l01Digits_loop0 w (0, 0) = outH w := by
  refine loop_post (step := spec_l01Digits_loop0_step w) (fun s => ∃ k acc : Nat, s.2 = (k : Int) ∧ s.1 = (acc : Int) ∧ k ≤ 8 ∧ acc < 16 ^ k ∧ foldH 0 w = foldH acc (w.drop k)) (fun s => 8 - s.2.toNat) (fun r => r = outH w) ?_ (0, 0) ⟨0, 0, rfl, rfl, by omega, by decide, by rw [List.drop_zero]⟩
  rintro ⟨a, k'⟩ ⟨k, acc, hk', ha', hk, ha, hf⟩
  simp only at hk' ha'
  subst hk' ha'
  rcases Nat.lt_or_ge k 8 with hlt | hge
  · have ha8 : acc < 16 ^ 8 := Nat.lt_of_lt_of_le ha (Nat.pow_le_pow_right (by decide) (by omega))
    obtain ⟨fl, hr⟩ := chars_round w k acc h8 hlt ha8
    rw [foldH_drop (by rw [h8]; exact hlt)] at hf
    cases hq : lowV (w.getD k 0) with
    | none =>
      rw [hq] at hr hf
      exact ⟨_, fl, hr, by unfold outH; rw [hf]⟩
    | some d =>
      rw [hq] at hr hf
      have hd := (low_hex _ d hq).2.1
      refine ⟨_, fl, hr, ⟨k + 1, 16 * acc + d, rfl, rfl, by omega, by rw [Nat.pow_succ]; omega, hf⟩, ?_⟩
      show 8 - ((k + 1 : Nat) : Int).toNat < 8 - ((k : Nat) : Int).toNat
      rw [Int.toNat_natCast, Int.toNat_natCast]
      omega
  · have he : k = 8 := by omega
    subst he
    rw [List.drop_eq_nil_of_le (by rw [h8]; exact Nat.le_refl _)] at hf
    refine ⟨.inr (.inr ((acc : Nat) : Int)), [], ?_, by unfold outH; rw [hf]; rfl⟩
    unfold spec_l01Digits_loop0_step
    have d : decide (((8 : Nat) : Int) < ((List.length w : Nat) : Int)) = false := decide_eq_false (by omega)
    simp only [DT.get, d]

theorem from_eq {n : Nat} (h : n < 4294967296) : spec_l01From ((n : Nat) : Int) = canon .f32 n := by
  have e : IntKind.wrap .u32 ((n : Nat) : Int) = ((n : Nat) : Int) := by
    show ((n : Nat) : Int) % 4294967296 = _
    omega
  unfold spec_l01From spec_l01From_tree
  simp only [e, DT.val, Int.toNat_natCast]

theorem digits_spec (w : List UInt8) (h8 : w.length = 8) : spec_l01Digits_need w = true ∧ (spec_l01Digits w).2 = (wordP w).isSome ∧ ∀ x, wordP w = some x → (spec_l01Digits w).1 = x := by
  obtain ⟨c1, c2⟩ := chars_spec w h8
  have key : ∃ y, (spec_l01Digits_tree w).get = some y ∧ y.2 = (wordP w).isSome ∧ ∀ x, wordP w = some x → y.1 = x := by
    unfold spec_l01Digits_tree
    unfold outH at c2
    cases hf : foldH 0 w with
    | none =>
      rw [hf] at c2
      simp only at c2
      have hq : wordP w = none := by unfold wordP; rw [decide_eq_true h8]; simp only [hf]
      refine ⟨(0, false), ?_, by rw [hq]; rfl, fun x h => by rw [hq] at h; cases h⟩
      simp only [DT.get, c1, c2, isL, leftD]
    | some n =>
      rw [hf] at c2
      simp only at c2
      have hn : n < 4294967296 := by
        have := foldH_lt hf
        rw [h8] at this
        exact Nat.lt_of_lt_of_le this (by decide)
      obtain ⟨b1, b2⟩ := nb_eq (canon_lt (n := n) (by omega))
      have hbn := (bits_eq (canon .f32 n)).2.1
      have hq : wordP w = bif nb (canon .f32 n) == n then some (canon .f32 n) else none := by unfold wordP; rw [decide_eq_true h8]; simp only [hf]
      cases he : nb (canon .f32 n) == n with
      | false =>
        rw [he] at hq
        simp only [cond_false] at hq
        have d2 : (((nb (canon .f32 n) : Nat) : Int) != ((n : Nat) : Int)) = true := by
          have := beq_eq_false_iff_ne.1 he
          rw [bne_iff_ne]; omega
        refine ⟨(0, false), ?_, by rw [hq]; rfl, fun x h => by rw [hq] at h; cases h⟩
        simp only [DT.get, c1, c2, isL, rightD, from_eq hn, hbn, b1, d2]
      | true =>
        rw [he] at hq
        simp only [cond_true] at hq
        have d2 : (((nb (canon .f32 n) : Nat) : Int) != ((n : Nat) : Int)) = false := by
          have := beq_iff_eq.1 he
          rw [this]; simp
        refine ⟨(canon .f32 n, true), ?_, by rw [hq]; rfl, fun x h => by rw [hq] at h; exact Option.some.inj h⟩
        simp only [DT.get, c1, c2, isL, rightD, from_eq hn, hbn, b1, d2]
  obtain ⟨y, hy, h1, h2⟩ := key
  obtain ⟨g1, g2⟩ := DT.of_get hy
  have g2 : spec_l01Digits w = y := g2
  exact ⟨g1, by rw [g2]; exact h1, by rw [g2]; exact h2⟩

end Go.Proofs.YtacelaaifaffpaaDoor
