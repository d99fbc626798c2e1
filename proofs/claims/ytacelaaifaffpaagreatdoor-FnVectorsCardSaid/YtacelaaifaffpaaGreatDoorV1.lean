/- Plain facts on the texts of numbers, written and read: the program's. -/
import Derived.Test.YtacelaaifaffpaaGreatDoorGR
import Derived.Test.YtacelaaifaffpaaGreatDoorExact
import Derived.Test.YtacelaaifaffpaaGreatDoorEngY
import Derived.Lib.Repeat
import Derived.Lib.ItoaNum
import Derived.Lib.Join
namespace Go.Proofs.YtacelaaifaffpaaGreatDoor
set_option linter.unusedVariables false
set_option linter.unusedSimpArgs false

namespace C44

def cuts : List UInt8 → List (List UInt8)
  | [] => [[]]
  | b :: r => match b == 44 with
    | true => [] :: cuts r
    | false => match cuts r with
      | [] => [[b]]
      | c :: cs => (b :: c) :: cs

theorem cuts_len : ∀ s : List UInt8, (cuts s).length = s.count 44 + 1
  | [] => rfl
  | b :: r => by
    have ih := cuts_len r
    unfold cuts
    rw [List.count_cons]
    cases hb : b == 44 with
    | true => simp only [List.length_cons, ih, if_true]
    | false =>
      simp only
      cases hc : cuts r with
      | nil => rw [hc] at ih; simp at ih
      | cons c cs => rw [hc] at ih; simp only [List.length_cons] at ih ⊢; simpa using ih

theorem cuts_pure : ∀ {s : List UInt8}, 44 ∉ s → cuts s = [s]
  | [], _ => rfl
  | b :: r, h => by
    have hb : (b == 44) = false := by
      rw [beq_eq_false_iff_ne]
      exact fun e => h (by rw [e]; exact List.mem_cons_self ..)
    unfold cuts
    rw [hb, cuts_pure fun hr => h (List.mem_cons_of_mem _ hr)]

theorem cuts_app : ∀ {c : List UInt8} (r : List UInt8), 44 ∉ c → cuts (c ++ 44 :: r) = c :: cuts r
  | [], r, _ => rfl
  | b :: c, r, h => by
    have hb : (b == 44) = false := by
      rw [beq_eq_false_iff_ne]
      exact fun e => h (by rw [e]; exact List.mem_cons_self ..)
    show cuts (b :: (c ++ 44 :: r)) = _
    rw [cuts, hb, cuts_app r fun hr => h (List.mem_cons_of_mem _ hr)]

theorem index_cut : ∀ {s : List UInt8}, 44 ∈ s → ∃ m : Nat, Go.Lib.indexByte s 44 = (m : Int) ∧ m < s.length ∧ cuts s = s.take m :: cuts (s.drop (m + 1))
  | [], h => by cases h
  | b :: r, h => by
    cases hb : b == 44 with
    | true =>
      refine ⟨0, ?_, by simp, ?_⟩
      · unfold Go.Lib.indexByte
        rw [hb]
        rfl
      · show cuts (b :: r) = _
        rw [cuts, hb]
        rfl
    | false =>
      have hr : 44 ∈ r := by
        rcases List.mem_cons.1 h with e | e
        · rw [← e] at hb; cases hb
        · exact e
      obtain ⟨m, h1, h2, h3⟩ := index_cut hr
      refine ⟨m + 1, ?_, by simp; omega, ?_⟩
      · unfold Go.Lib.indexByte
        rw [hb, h1]
        have : ((m : Int) == -1) = false := by rw [beq_eq_false_iff_ne]; omega
        simp only [this, Bool.false_eq_true, if_false]
        omega
      · show cuts (b :: r) = _
        rw [cuts, hb, h3]
        rfl

theorem cuts_le (s : List UInt8) : (cuts s).length ≤ s.length + 1 := by
  rw [cuts_len]
  have := List.count_le_length (a := (44 : UInt8)) (l := s)
  omega
theorem cuts_pos (s : List UInt8) : 0 < (cuts s).length := by rw [cuts_len]; omega


theorem index_eq (s : List UInt8) : strings_Index_k44 s = Go.Lib.indexByte s 44 := by
  show internal_stringslite_Index_k44 s = _
  unfold internal_stringslite_Index_k44 internal_stringslite_Index_k44_tree
  simp only [DT.val]
  cases h : ([44] == s) with
  | true =>
    have h := eq_of_beq h
    subst h
    rfl
  | false => rfl

theorem split_loop (a : List UInt8) (N : Nat) (hN : N = (cuts a).length) (ha : a.length ≤ 2 ^ 40) (x : List (List UInt8)) (hx : x.length = N) :
    strings_genSplit_k44_k0_m1_loop0_ends (0, ((N - 1 : Nat) : Int)) (a, 0, x) = true ∧ (fun r : List UInt8 × Int × List (List UInt8) => r.2.1 = ((N - 1 : Nat) : Int) ∧ r.2.2.length = N ∧ r.2.2.take (N - 1) ++ [r.1] = cuts a) (strings_genSplit_k44_k0_m1_loop0 (0, ((N - 1 : Nat) : Int)) (a, 0, x)) := by
  have hNp : 0 < N := by rw [hN]; exact cuts_pos a
  have hNl : N ≤ a.length + 1 := by rw [hN]; exact cuts_le a
  refine loop_post (step := strings_genSplit_k44_k0_m1_loop0_step (0, ((N - 1 : Nat) : Int))) (fun s => ∃ i : Nat, s.2.1 = (i : Int) ∧ s.2.2.length = N ∧ s.1.length ≤ a.length ∧ s.2.2.take i ++ cuts s.1 = cuts a ∧ i + (cuts s.1).length = N) (fun s => N - s.2.1.toNat) (fun r => r.2.1 = ((N - 1 : Nat) : Int) ∧ r.2.2.length = N ∧ r.2.2.take (N - 1) ++ [r.1] = cuts a) ?_ (a, 0, x) ⟨0, rfl, hx, Nat.le_refl _, rfl, by show 0 + (cuts a).length = N; omega⟩
  rintro ⟨s, k, y⟩ ⟨i, hk, hy, hs, he, hi⟩
  simp only at hk hy hs he hi
  subst hk
  have hp := cuts_pos s
  unfold strings_genSplit_k44_k0_m1_loop0_step
  rcases Nat.lt_or_ge i (N - 1) with hlt | hge
  · have hc : 44 ∈ s := by
      have := cuts_len s
      have : 0 < s.count 44 := by omega
      exact List.count_pos_iff.1 this
    obtain ⟨m, h1, h2, h3⟩ := index_cut hc
    have e1 : decide (((i : Nat) : Int) < ((N - 1 : Nat) : Int)) = true := decide_eq_true (by omega)
    have e2 : decide (((m : Nat) : Int) < 0) = false := decide_eq_false (by omega)
    have w1 : IntKind.wrap .i64 ((m : Int) + 0) = ((m : Nat) : Int) := by rw [wrap_small (by omega) (by omega)]; omega
    have w2 : IntKind.wrap .i64 ((m : Int) + 1) = ((m + 1 : Nat) : Int) := by rw [wrap_small (by omega) (by omega)]; omega
    have e3 : (decide (0 ≤ ((m : Nat) : Int)) && decide (((m : Nat) : Int) ≤ ((s.length : Nat) : Int))) = true := by
      rw [decide_eq_true (p := (0 : Int) ≤ ((m : Nat) : Int)) (by omega), decide_eq_true (by omega)]; rfl
    have e4 : (decide (0 ≤ ((i : Nat) : Int)) && decide (((i : Nat) : Int) < ((y.length : Nat) : Int))) = true := nat_in (by omega)
    have e5 : decide (i < y.length) = true := decide_eq_true (by omega)
    have e6 : (decide (0 ≤ ((m + 1 : Nat) : Int)) && decide (((m + 1 : Nat) : Int) ≤ ((s.length : Nat) : Int))) = true := by
      rw [decide_eq_true (p := (0 : Int) ≤ ((m + 1 : Nat) : Int)) (by omega), decide_eq_true (by omega)]; rfl
    have w3 : IntKind.wrap .i64 ((i : Int) + 1) = ((i + 1 : Nat) : Int) := nat_next (n := N) (by omega) (by omega)
    refine ⟨.inl (s.drop (m + 1), ((i + 1 : Nat) : Int), y.set i (s.take m)), [0], ?_, ⟨i + 1, rfl, by rw [List.length_set]; exact hy, ?_, ?_, ?_⟩, ?_⟩
    · refine (DT.get_yes e1).trans ?_
      simp only [index_eq, h1]
      refine (DT.get_no e2).trans ?_
      simp only [w1, w2, w3]
      refine (DT.get_need e3).trans ((DT.get_need e4).trans ?_)
      simp only [Int.toNat_natCast]
      refine (DT.get_need e5).trans ((DT.get_need e6).trans ?_)
      simp only [List.take_length, List.drop_zero]
      rfl
    · show (s.drop (m + 1)).length ≤ _
      rw [List.length_drop]; omega
    · show (y.set i (s.take m)).take (i + 1) ++ cuts (s.drop (m + 1)) = cuts a
      have hset : (y.set i (s.take m)).take (i + 1) = y.take i ++ [s.take m] := by
        rw [List.take_set, List.take_succ_eq_append_getElem (by omega), List.set_append_right _ _ (by rw [List.length_take]; omega)]
        congr 1
        rw [List.length_take, Nat.min_eq_left (by omega), Nat.sub_self]
        rfl
      rw [hset, List.append_assoc, ← he, h3]
      rfl
    · show i + 1 + (cuts (s.drop (m + 1))).length = N
      rw [h3] at hi
      simp only [List.length_cons] at hi
      omega
    · show N - ((i + 1 : Nat) : Int).toNat < N - ((i : Nat) : Int).toNat
      rw [Int.toNat_natCast, Int.toNat_natCast]
      omega
  · have hiN : i = N - 1 := by omega
    have hone : (cuts s).length = 1 := by omega
    have hc : 44 ∉ s := by
      have := cuts_len s
      exact fun h => by have := List.count_pos_iff.2 h; omega
    subst hiN
    have e1 : decide (((N - 1 : Nat) : Int) < ((N - 1 : Nat) : Int)) = false := nat_not
    refine ⟨.inr (s, ((N - 1 : Nat) : Int), y), [0], (DT.get_no e1).trans rfl, rfl, hy, ?_⟩
    rw [← he, cuts_pure hc]

theorem take_set_last {α : Type} {y : List α} {n : Nat} (x : α) (h : y.length = n) (hn : 0 < n) : (y.set (n - 1) x).take n = y.take (n - 1) ++ [x] := by
  have e : n = (n - 1) + 1 := by omega
  have hset : (y.set (n - 1) x).take ((n - 1) + 1) = y.take (n - 1) ++ [x] := by
    rw [List.take_set, List.take_succ_eq_append_getElem (by omega), List.set_append_right _ _ (by rw [List.length_take]; omega)]
    congr 1
    rw [List.length_take, Nat.min_eq_left (by omega), Nat.sub_self]
    rfl
  rw [← e] at hset
  exact hset

theorem split_eq (a : List UInt8) (ha : a.length ≤ 2 ^ 40) : strings_Split_k44_need a = true ∧ strings_Split_k44 a = cuts a := by
  obtain ⟨N, hN⟩ : ∃ N, N = (cuts a).length := ⟨_, rfl⟩
  have hNp : 0 < N := by rw [hN]; exact cuts_pos a
  have hNl : N ≤ a.length + 1 := by rw [hN]; exact cuts_le a
  have hcount : strings_Count_k44 a = ((N - 1 : Nat) : Int) := by
    show ((Go.Lib.countByte a 44 : Nat) : Int) = _
    rw [hN, cuts_len]
    rfl
  have w1 : IntKind.wrap .i64 (((N - 1 : Nat) : Int) + 1) = ((N : Nat) : Int) := by rw [wrap_small (by omega) (by omega)]; omega
  have w2 : IntKind.wrap .i64 (((a.length : Nat) : Int) + 1) = ((a.length + 1 : Nat) : Int) := by rw [wrap_small (by omega) (by omega)]; omega
  have w3 : (bif decide (((a.length + 1 : Nat) : Int) < ((N : Nat) : Int)) then ((a.length + 1 : Nat) : Int) else ((N : Nat) : Int)) = ((N : Nat) : Int) := by
    rw [decide_eq_false (by omega)]; rfl
  have w4 : IntKind.wrap .i64 (((N : Nat) : Int) - 1) = ((N - 1 : Nat) : Int) := by rw [wrap_small (by omega) (by omega)]; omega
  have e1 : (decide (0 ≤ ((N : Nat) : Int)) && decide (((N : Nat) : Int) ≤ ((N : Nat) : Int)) && decide (16 * ((N : Nat) : Int) ≤ 281474976710656) && decide (((N : Nat) : Int) ≤ 9223372036854775807)) = true := by
    rw [decide_eq_true (p := (0 : Int) ≤ ((N : Nat) : Int)) (by omega), decide_eq_true (p := ((N : Nat) : Int) ≤ ((N : Nat) : Int)) (by omega), decide_eq_true (p := 16 * ((N : Nat) : Int) ≤ 281474976710656) (by omega), decide_eq_true (by omega)]; rfl
  obtain ⟨l1, l2, l3, l4⟩ := split_loop a N hN ha (List.replicate N []) List.length_replicate
  obtain ⟨R, hR⟩ : ∃ R, R = strings_genSplit_k44_k0_m1_loop0 (0, ((N - 1 : Nat) : Int)) (a, 0, List.replicate N []) := ⟨_, rfl⟩
  rw [← hR] at l2 l3 l4
  have key : (strings_genSplit_k44_k0_m1_tree a).get = some (cuts a) := by
    unfold strings_genSplit_k44_k0_m1_tree
    refine DT.get_skip.trans (DT.get_skip.trans (DT.get_skip.trans ?_))
    simp only [hcount, w1, w2, w3]
    refine (DT.get_need e1).trans ?_
    simp only [w4, Int.toNat_natCast]
    refine (DT.get_need l1).trans ?_
    simp only [← hR, l2, l3, Int.toNat_natCast]
    refine (DT.get_need (nat_in (by omega))).trans ((DT.get_need (decide_eq_true (by omega))).trans ?_)
    simp only [List.length_set, l3, w1]
    refine (DT.get_need (by rw [decide_eq_true (p := (0 : Int) ≤ ((N : Nat) : Int)) (by omega), decide_eq_true (by omega)]; rfl)).trans ?_
    rw [DT.get_leaf, Int.toNat_natCast, Nat.sub_zero, take_set_last _ l3 hNp, l4]
  obtain ⟨g1, g2⟩ := DT.of_get key
  have hs : strings_Split_k44 a = strings_genSplit_k44_k0_m1 a := rfl
  refine ⟨?_, hs.trans g2⟩
  unfold strings_Split_k44_need strings_Split_k44_tree
  have g1 : strings_genSplit_k44_k0_m1_need a = true := g1
  simp only [DT.ok, g1]


theorem part_len : ∀ (a : List UInt8) {w : List UInt8}, w ∈ cuts a → w.length ≤ a.length
  | [], w, h => by simp [cuts] at h; subst h; simp
  | b :: r, w, h => by
    unfold cuts at h
    cases hb : b == 44 with
    | true =>
      rw [hb] at h
      simp only [List.mem_cons] at h
      rcases h with rfl | h
      · simp
      · exact Nat.le_trans (part_len r h) (by simp)
    | false =>
      rw [hb] at h
      simp only at h
      cases hc : cuts r with
      | nil => rw [hc] at h; simp only [List.mem_singleton] at h; subst h; simp
      | cons c cs =>
        rw [hc] at h
        simp only [List.mem_cons] at h
        rcases h with rfl | h
        · have := part_len r (w := c) (by rw [hc]; exact List.mem_cons_self ..)
          simp; omega
        · have := part_len r (w := w) (by rw [hc]; exact List.mem_cons_of_mem _ h)
          simp; omega
end C44



theorem bits_eq (x : Nat) : impl_BitsOf_need x = true ∧ spec_l01Bits_need x = true ∧ impl_BitsOf x = spec_l01Bits x ∧ (x < 2 ^ 32 → 0 ≤ spec_l01Bits x ∧ spec_l01Bits x < 2 ^ 32) := by
  have h : impl_BitsOf_tree x = spec_l01Bits_tree x := rfl
  have h2 : spec_l01Bits_need x = true ∧ (x < 2 ^ 32 → 0 ≤ spec_l01Bits x ∧ spec_l01Bits x < 2 ^ 32) := by
    unfold spec_l01Bits_need spec_l01Bits spec_l01Bits_tree
    simp only [fne_self]
    cases isNaN .f32 x with
    | true => exact ⟨rfl, fun _ => by simp only [DT.val]; decide⟩
    | false =>
      refine ⟨rfl, fun hx => ?_⟩
      simp only [DT.val]
      rw [wrap_small (by omega) (by omega)]
      omega
  refine ⟨?_, h2.1, ?_, h2.2⟩
  · unfold impl_BitsOf_need
    rw [h]
    exact h2.1
  · unfold impl_BitsOf spec_l01Bits
    rw [h]

/-- The bits of a number, and its eight digits. -/
def nb (x : Nat) : Nat := (spec_l01Bits x).toNat
def hexW (x : Nat) : List UInt8 := hexTail 8 (nb x)
theorem hexW_length (x : Nat) : (hexW x).length = 8 := hexTail_length _ _

theorem nb_eq {x : Nat} (hx : F32 x) : spec_l01Bits x = ((nb x : Nat) : Int) ∧ nb x < 4294967296 := by
  obtain ⟨h0, h1⟩ := (bits_eq x).2.2.2 hx
  unfold nb
  omega

theorem hex_impl (x : Nat) (hx : F32 x) : impl_digits_need x = true ∧ impl_digits x = hexW x := by
  obtain ⟨hb, hu⟩ := nb_eq hx
  obtain ⟨h8, hp⟩ := hex_pad hu
  have hlen := hexText_length (nb x)
  have hpos := hexLen_pos (nb x)
  have key : (impl_digits_tree x).get = some (hexW x) := by
    unfold impl_digits_tree
    have e3 : IntKind.wrap .i64 (8 - ((List.length (hexText (nb x)) : Nat) : Int)) = ((8 - hexLen (nb x) : Nat) : Int) := by
      rw [hlen, wrap_small (by omega) (by omega)]
      omega
    have c1 : (decide ((0 : Int) ≤ ((nb x : Nat) : Int)) && decide (((nb x : Nat) : Int) ≤ 9223372036854775807)) = true := by
      rw [Bool.and_eq_true, decide_eq_true_eq, decide_eq_true_eq]; omega
    have c2 : (decide ((0 : Int) ≤ ((8 - hexLen (nb x) : Nat) : Int)) && decide (((8 - hexLen (nb x) : Nat) : Int) ≤ 9223372036854775807) && decide (List.length [48] * (8 - hexLen (nb x)) ≤ 140737488355328)) = true := by
      simp only [Bool.and_eq_true, decide_eq_true_eq, List.length_singleton]; omega
    have er : Go.Lib.repeatL ([48] : List UInt8) (8 - hexLen (nb x)) = List.replicate (8 - hexLen (nb x)) 48 := by
      generalize 8 - hexLen (nb x) = k
      induction k with
      | zero => rfl
      | succ k ih => rw [Go.Lib.repeatL, ih, List.replicate_succ]; rfl
    have c3 : decide (List.length (List.replicate (8 - hexLen (nb x)) (48 : UInt8)) + List.length (hexText (nb x)) ≤ 9223372036854775807) = true := by
      rw [decide_eq_true_eq, List.length_replicate, hlen]; omega
    simp only [DT.get, (bits_eq x).1, (bits_eq x).2.2.1, hb, c1, Int.toNat_natCast, e3, c2, er, c3, hp]
    rfl
  exact DT.of_get key


/-! ## Digits that are read -/

/-- The value of a digit as it is written. -/
def lowV (c : UInt8) : Option Nat :=
  if 48 ≤ c.toNat ∧ c.toNat ≤ 57 then some (c.toNat - 48) else
  if 97 ≤ c.toNat ∧ c.toNat ≤ 102 then some (c.toNat - 87) else none

theorem low_hex (c : UInt8) (d : Nat) (h : lowV c = some d) : hexV c = some d ∧ d < 16 ∧ hexD d = c := by
  have key : ∀ n : Fin 256, ∀ d, lowV (UInt8.ofNat n.val) = some d → hexV (UInt8.ofNat n.val) = some d ∧ d < 16 ∧ hexD d = UInt8.ofNat n.val := by
    have k2 : ∀ n : Fin 256, (match lowV (UInt8.ofNat n.val) with
      | none => true
      | some d => decide (hexV (UInt8.ofNat n.val) = some d) && (decide (d < 16) && decide (hexD d = UInt8.ofNat n.val))) = true := by decide +kernel
    intro n d hd
    have := k2 n
    rw [hd] at this
    simp only [Bool.and_eq_true, decide_eq_true_eq] at this
    exact this
  have hc : UInt8.ofNat (⟨c.toNat, c.toNat_lt⟩ : Fin 256).val = c := by simp
  have := key ⟨c.toNat, c.toNat_lt⟩ d
  rw [hc] at this
  exact this h

theorem low_of (d : Nat) (h : d < 16) : lowV (hexD d) = some d := by
  have key : ∀ d : Fin 16, lowV (hexD d.val) = some d.val := by decide +kernel
  exact key ⟨d, h⟩

def foldH : Nat → List UInt8 → Option Nat
  | acc, [] => some acc
  | acc, c :: r => match lowV c with
    | none => none
    | some d => foldH (16 * acc + d) r

theorem foldH_bound : ∀ (l : List UInt8) (acc n : Nat), foldH acc l = some n → n / 16 ^ l.length = acc ∧ hexTail l.length n = l
  | [], acc, n, h => by simp only [foldH, Option.some.injEq] at h; subst h; exact ⟨by simp, rfl⟩
  | c :: r, acc, n, h => by
    unfold foldH at h
    split at h
    · cases h
    · rename_i d hd
      obtain ⟨_, hd16, hc⟩ := low_hex c d hd
      obtain ⟨h1, h2⟩ := foldH_bound r _ n h
      rw [List.length_cons]
      refine ⟨?_, ?_⟩
      · rw [Nat.pow_succ, ← Nat.div_div_eq_div_mul, h1]
        omega
      · rw [hexTail, h1, h2, show (16 * acc + d) % 16 = d from by omega, hc]

theorem foldH_tail (u : Nat) : ∀ (k acc : Nat), foldH acc (hexTail k u) = some (acc * 16 ^ k + u % 16 ^ k)
  | 0, acc => by simp [hexTail, foldH, Nat.mod_one]
  | k + 1, acc => by
    unfold hexTail foldH
    rw [low_of _ (Nat.mod_lt _ (by decide))]
    simp only
    rw [foldH_tail u k]
    congr 1
    have h1 : u % 16 ^ (k + 1) = u / 16 ^ k % 16 * 16 ^ k + u % 16 ^ k := by
      rw [Nat.pow_succ, Nat.mod_mul, Nat.mul_comm (u / 16 ^ k % 16)]
      omega
    rw [h1, Nat.pow_succ, Nat.add_mul]
    rw [show acc * (16 ^ k * 16) = 16 * acc * 16 ^ k from by rw [Nat.mul_comm (16 ^ k) 16, ← Nat.mul_assoc, Nat.mul_comm acc 16]]
    omega

theorem foldH_lt {l : List UInt8} {n : Nat} (h : foldH 0 l = some n) : n < 16 ^ l.length := by
  have := (foldH_bound l 0 n h).1
  exact (Nat.div_eq_zero_iff_lt (Nat.pow_pos (by decide))).1 this

theorem parse_fold : ∀ (l : List UInt8) (acc n : Nat), foldH acc l = some n → (acc + 1) * 16 ^ l.length ≤ 4294967296 → parse16 acc l = .ok n
  | [], acc, n, h, _ => by simp only [foldH, Option.some.injEq] at h; subst h; rfl
  | c :: r, acc, n, h, hb => by
    unfold foldH at h
    split at h
    · cases h
    · rename_i d hd
      obtain ⟨hv, hd16, _⟩ := low_hex c d hd
      rw [List.length_cons, Nat.pow_succ] at hb
      have hp : 1 ≤ 16 ^ r.length := Nat.pow_pos (by decide)
      have hb2 : (acc * 16 + 16) * 16 ^ r.length ≤ 4294967296 := by
        rw [show (acc * 16 + 16) = (acc + 1) * 16 from by omega, Nat.mul_assoc, Nat.mul_comm 16]
        exact hb
      have hb3 : (acc * 16 + d + 1) * 16 ^ r.length ≤ 4294967296 := Nat.le_trans (Nat.mul_le_mul_right _ (by omega)) hb2
      have hb4 : acc * 16 + d + 1 ≤ 4294967296 := Nat.le_trans (Nat.le_mul_of_pos_right _ hp) hb3
      unfold parse16
      rw [hv]
      show (if _ then _ else _) = _
      rw [if_neg (by omega)]
      refine parse_fold r (acc * 16 + d) n ?_ hb3
      rw [Nat.mul_comm acc 16]
      exact h

/-- A word of eight digits that is a number's. -/
def wordP (s : List UInt8) : Option Nat := match decide (s.length = 8) with
  | false => none
  | true => match foldH 0 s with
    | none => none
    | some n => bif nb (canon .f32 n) == n then some (canon .f32 n) else none

theorem canon_lt {n : Nat} (h : n ≤ 4294967295) : F32 (canon .f32 n) := canon_f32 (b := n) (by unfold Lit.wf; exact decide_eq_true (by omega))

theorem read_need (s : List UInt8) (hs : s.length ≤ 2 ^ 40) : (decide (List.length s ≤ 281474976710656) && impl_digits_need (canon .f32 (valP (parseS s)))) = true := by
  rw [(hex_impl _ (canon_lt (valS_lt s))).1, Bool.and_true, decide_eq_true_eq]
  omega

theorem read_val (s : List UInt8) : (readD s).2 = (wordP s).isSome ∧ ∀ x, wordP s = some x → (readD s).1 = x := by
  have hx := canon_lt (valS_lt s)
  have hd := (hex_impl _ hx).2
  have hnb := (nb_eq hx).2
  have h2 : (readD s).2 = (okP (parseS s) && (hexW (canon .f32 (valP (parseS s))) == s)) := by unfold readD; rw [hd]
  cases h8 : decide (s.length = 8) with
  | false =>
    have hw : wordP s = none := by unfold wordP; rw [h8]
    have hne : (hexW (canon .f32 (valP (parseS s))) == s) = false := by
      rw [beq_eq_false_iff_ne]
      intro e
      have := hexW_length (canon .f32 (valP (parseS s)))
      rw [e] at this
      exact of_decide_eq_false h8 this
    rw [h2, hw, hne, Bool.and_false]
    exact ⟨rfl, fun x h => by cases h⟩
  | true =>
    have hl := of_decide_eq_true h8
    cases hf : foldH 0 s with
    | none =>
      have hw : wordP s = none := by unfold wordP; rw [h8]; simp only [hf]
      have hne : (hexW (canon .f32 (valP (parseS s))) == s) = false := by
        rw [beq_eq_false_iff_ne]
        intro e
        have := foldH_tail (nb (canon .f32 (valP (parseS s)))) 8 0
        unfold hexW at e
        rw [e, hf] at this
        cases this
      rw [h2, hw, hne, Bool.and_false]
      exact ⟨rfl, fun x h => by cases h⟩
    | some n =>
      have hp : parseS s = .ok n := by
        have : parse16 0 s = .ok n := parse_fold s 0 n hf (by rw [hl]; decide)
        unfold parseS
        split
        · simp at hl
        · exact this
      have hn : n < 4294967296 := by
        have := foldH_lt hf
        rw [hl] at this
        exact Nat.lt_of_lt_of_le this (by decide)
      have hv : valP (parseS s) = n := by rw [hp]; rfl
      have hs : hexTail 8 n = s := by
        have := (foldH_bound s 0 n hf).2
        rwa [hl] at this
      rw [hv] at h2 hnb
      have heq : (hexW (canon .f32 n) == s) = (nb (canon .f32 n) == n) := by
        rw [Bool.eq_iff_iff, beq_iff_eq, beq_iff_eq]
        constructor
        · intro e
          have h1 := foldH_tail (nb (canon .f32 n)) 8 0
          unfold hexW at e
          rw [e, hf] at h1
          have h1 := Option.some.inj h1
          rw [Nat.mod_eq_of_lt (Nat.lt_of_lt_of_le hnb (by decide))] at h1
          omega
        · intro e
          unfold hexW
          rw [e]
          exact hs
      have hw : wordP s = bif nb (canon .f32 n) == n then some (canon .f32 n) else none := by unfold wordP; rw [h8]; simp only [hf]
      rw [h2, hw, heq, hp]
      show (true && _) = _ ∧ _
      cases hq : nb (canon .f32 n) == n with
      | false => exact ⟨rfl, fun x h => by cases h⟩
      | true =>
        refine ⟨rfl, fun x h => ?_⟩
        simp only [cond_true, Option.some.injEq] at h
        subst h
        unfold readD
        rw [hp]
        rfl

/-! ## Numbers -/

def readL : List (List UInt8) → Option (List Nat)
  | [] => some []
  | w :: r => match wordP w with
    | none => none
    | some x => (readL r).map (x :: ·)

def numsR (a : List UInt8) : Option (List Nat) := match a == [110, 111, 110, 101] with
  | true => some []
  | false => match decide ((C44.cuts a).length ≤ 256) with
    | false => none
    | true => readL (C44.cuts a)

theorem readL_drop {ws : List (List UInt8)} {i : Nat} (h : i < ws.length) : readL (ws.drop i) = match wordP (ws.getD i default) with
    | none => none
    | some x => (readL (ws.drop (i + 1))).map (x :: ·) := by
  rw [List.drop_eq_getElem_cons h, List.getD_eq_getElem?_getD, List.getElem?_eq_getElem h]
  rfl

theorem readL_len : ∀ {ws : List (List UInt8)} {xs : List Nat}, readL ws = some xs → xs.length = ws.length
  | [], xs, h => by simp only [readL, Option.some.injEq] at h; subst h; rfl
  | w :: r, xs, h => by
    unfold readL at h
    cases hw : wordP w with
    | none => rw [hw] at h; cases h
    | some x =>
      rw [hw] at h
      simp only at h
      cases hr : readL r with
      | none => rw [hr] at h; cases h
      | some ys =>
        rw [hr] at h
        simp only [Option.map_some, Option.some.injEq] at h
        subst h
        simp [readL_len hr]

theorem map_app {o : Option (List Nat)} {xs : List Nat} {x : Nat} : (o.map (x :: ·)).map (xs ++ ·) = o.map ((xs ++ [x]) ++ ·) := by
  cases o <;> simp

theorem getD_in {α : Type} {l : List α} {d : α} {i : Nat} (h : i < l.length) : l.getD i d ∈ l := by
  rw [List.getD_eq_getElem?_getD, List.getElem?_eq_getElem h]
  exact List.getElem_mem h

/-- What comes of the words. -/
def outL (ws : List (List UInt8)) : Unit ⊕ List Nat := match readL ws with
  | none => .inl ()
  | some xs => .inr xs

theorem words_impl (ws : List (List UInt8)) (hl : ws.length ≤ 256) (hw : ∀ w ∈ ws, w.length ≤ 2 ^ 40) : impl_ReadNumbers_loop0_ends (true, ((ws.length : Nat) : Int), ws) (0, []) = true ∧ impl_ReadNumbers_loop0 (true, ((ws.length : Nat) : Int), ws) (0, []) = outL ws := by
  refine loop_post (step := impl_ReadNumbers_loop0_step (true, ((ws.length : Nat) : Int), ws)) (fun s => ∃ i : Nat, s.1 = (i : Int) ∧ i ≤ ws.length ∧ s.2.length = i ∧ readL ws = (readL (ws.drop i)).map (s.2 ++ ·)) (fun s => ws.length - s.1.toNat) (fun r => r = outL ws) ?_ (0, []) ⟨0, rfl, Nat.zero_le _, rfl, by simp⟩
  rintro ⟨s, xs⟩ ⟨i, hs, hi, hx, hr⟩
  simp only at hs hx hr
  subst hs
  rcases Nat.lt_or_ge i ws.length with hlt | hge
  · have hin := read_need _ (hw _ (getD_in (d := default) hlt))
    obtain ⟨hv1, hv2⟩ := read_val (ws.getD i default)
    rw [readL_drop hlt] at hr
    cases hq : wordP (ws.getD i default) with
    | none =>
      rw [hq] at hv1 hr
      refine ⟨.inr (.inl ()), [], ?_, by unfold outL; rw [hr]; rfl⟩
      unfold impl_ReadNumbers_loop0_step
      simp only [DT.get, nat_dec hlt, nat_ge, Bool.and_self, Int.toNat_natCast, decide_eq_true hlt, hin, hv1, Bool.not_true, Option.isSome_none, Bool.not_false]
    | some x =>
      rw [hq] at hv1 hr
      have hv2 := hv2 x hq
      refine ⟨.inl (((i + 1 : Nat) : Int), xs ++ [x]), [162, 1], ?_, ⟨i + 1, rfl, hlt, by simp [hx], by rw [hr]; exact map_app⟩, ?_⟩
      · unfold impl_ReadNumbers_loop0_step
        have c : (decide ((List.length xs + List.length [x]) * 4 ≤ 140737488355328) && decide (List.length xs + List.length [x] ≤ 9223372036854775807)) = true := by
          rw [Bool.and_eq_true, decide_eq_true_eq, decide_eq_true_eq, List.length_singleton]; omega
        simp only [DT.get, nat_dec hlt, nat_ge, Bool.and_self, Int.toNat_natCast, decide_eq_true hlt, hin, hv1, hv2, Bool.not_true, Option.isSome_some, c, nat_next hlt (Nat.le_trans hl (by decide))]
      · show ws.length - ((i + 1 : Nat) : Int).toNat < ws.length - ((i : Nat) : Int).toNat
        rw [Int.toNat_natCast, Int.toNat_natCast]
        omega
  · have he : i = ws.length := Nat.le_antisymm hi hge
    refine ⟨.inr (.inr xs), [0], ?_, ?_⟩
    · unfold impl_ReadNumbers_loop0_step
      simp only [DT.get, he, nat_not]
    · unfold outL
      rw [hr, he, List.drop_length]
      simp [readL]

/-- Too many words: none is read. -/
theorem words_many (ws : List (List UInt8)) (h0 : 0 < ws.length) (hw : ∀ w ∈ ws, w.length ≤ 2 ^ 40) : impl_ReadNumbers_loop0_ends (false, ((ws.length : Nat) : Int), ws) (0, []) = true ∧ impl_ReadNumbers_loop0 (false, ((ws.length : Nat) : Int), ws) (0, []) = .inl () := by
  refine loop_post (step := impl_ReadNumbers_loop0_step (false, ((ws.length : Nat) : Int), ws)) (fun s => s.1 = 0) (fun s => 0) (fun r => r = .inl ()) ?_ (0, []) rfl
  rintro ⟨s, xs⟩ hs
  simp only at hs
  subst hs
  have hin := read_need _ (hw _ (getD_in (d := default) h0))
  have d1 : decide ((0 : Int) < ((ws.length : Nat) : Int)) = true := decide_eq_true (by omega)
  have d2 : decide ((0 : Int) ≤ 0) = true := rfl
  have d3 : decide (Int.toNat 0 < List.length ws) = true := decide_eq_true h0
  have d4 : Int.toNat 0 = 0 := rfl
  have d5 : decide (0 < List.length ws) = true := decide_eq_true h0
  refine ⟨.inr (.inl ()), [], ?_, rfl⟩
  unfold impl_ReadNumbers_loop0_step
  simp only [DT.get, d1, d2, d3, d4, d5, Bool.and_self, hin, Bool.not_false]

def outR (a : List UInt8) : List Nat ⊕ Unit := match numsR a with
  | none => .inr ()
  | some xs => .inl xs

theorem nums_impl (a : List UInt8) (ha : a.length ≤ 2 ^ 30) : impl_ReadNumbers_need a = true ∧ impl_ReadNumbers a = outR a := by
  have hp : impl_apart_need a = true ∧ impl_apart a = bif a == [110, 111, 110, 101] then .inl () else .inr (C44.cuts a, decide ((C44.cuts a).length ≤ 256)) := by
    obtain ⟨s1, s2⟩ := C44.split_eq a (by omega)
    have key : (impl_apart_tree a).get = some (bif a == [110, 111, 110, 101] then .inl () else .inr (C44.cuts a, decide ((C44.cuts a).length ≤ 256))) := by
      unfold impl_apart_tree
      have e : decide (((List.length (C44.cuts a) : Nat) : Int) ≤ 256) = decide ((C44.cuts a).length ≤ 256) := by rw [decide_eq_decide]; omega
      cases hq : (a == [110, 111, 110, 101]) <;> simp only [DT.get, hq, s1, s2, e, cond_true, cond_false]
    exact DT.of_get key
  obtain ⟨p1, p2⟩ := hp
  have hw : ∀ w ∈ C44.cuts a, w.length ≤ 2 ^ 40 := fun w h => by have := C44.part_len a h; omega
  have key : (impl_ReadNumbers_tree a).get = some (outR a) := by
    unfold impl_ReadNumbers_tree outR numsR
    cases hq : (a == [110, 111, 110, 101]) with
    | true =>
      rw [hq] at p2
      simp only [cond_true] at p2
      simp only [DT.get, p1, p2, isL]
    | false =>
      rw [hq] at p2
      simp only [cond_false] at p2
      cases hm : decide ((C44.cuts a).length ≤ 256) with
      | false =>
        rw [hm] at p2
        obtain ⟨w1, w2⟩ := words_many (C44.cuts a) (C44.cuts_pos a) hw
        simp only [DT.get, p1, p2, isL, rightD, w1, w2]
      | true =>
        rw [hm] at p2
        obtain ⟨w1, w2⟩ := words_impl (C44.cuts a) (of_decide_eq_true hm) hw
        unfold outL at w2
        cases hr : readL (C44.cuts a) with
        | none =>
          rw [hr] at w2
          simp only at w2
          simp only [DT.get, p1, p2, isL, rightD, w1, w2]
        | some xs =>
          rw [hr] at w2
          simp only at w2
          simp only [DT.get, p1, p2, isL, rightD, w1, w2, Bool.not_true]
  exact DT.of_get key

/-! ## Texts between marks -/

theorem join_snoc (sep y : List UInt8) {xs : List (List UInt8)} (h : xs ≠ []) : Go.Lib.join (xs ++ [y]) sep = Go.Lib.join xs sep ++ sep ++ y := by
  cases xs with
  | nil => exact absurd rfl h
  | cons x r =>
    rw [List.cons_append, Go.Lib.join_cons, Go.Lib.join_cons]
    simp [Go.Lib.joinTail, List.append_assoc]

theorem join_le (sep : List UInt8) (B : Nat) : ∀ (xs : List (List UInt8)), (∀ x ∈ xs, x.length ≤ B) → (Go.Lib.join xs sep).length ≤ xs.length * (B + sep.length)
  | [], _ => by simp [Go.Lib.join_nil]
  | x :: r, h => by
    rw [Go.Lib.join_length]
    have hl : Go.Lib.lens (x :: r) ≤ (r.length + 1) * B := by
      have : ∀ l : List (List UInt8), (∀ x ∈ l, x.length ≤ B) → Go.Lib.lens l ≤ l.length * B := by
        intro l
        induction l with
        | nil => intro _; simp [Go.Lib.lens]
        | cons y l ih =>
          intro hl
          have h1 := hl y (List.mem_cons_self ..)
          have h2 := ih fun z hz => hl z (List.mem_cons_of_mem _ hz)
          simp only [Go.Lib.lens, List.map_cons, List.sum_cons, List.length_cons, Nat.succ_mul] at h2 ⊢
          omega
      exact this _ h
    rw [List.length_cons, Nat.mul_add, Nat.succ_mul, Nat.mul_comm sep.length]
    rw [Nat.succ_mul] at hl
    rw [Nat.succ_mul]
    omega

theorem take_snoc {α : Type} {l : List α} {i : Nat} (h : i < l.length) (d : α) : l.take (i + 1) = l.take i ++ [l.getD i d] := by
  rw [List.take_add_one, List.getElem?_eq_getElem h, List.getD_eq_getElem?_getD, List.getElem?_eq_getElem h]
  rfl

/-- What stands between marks, up to a place. -/
theorem join_step {α : Type} (f : α → List UInt8) (sep : List UInt8) {l : List α} {i : Nat} (h : i < l.length) (h1 : 1 ≤ i) (d : α) : Go.Lib.join ((l.take (i + 1)).map f) sep = Go.Lib.join ((l.take i).map f) sep ++ (sep ++ f (l.getD i d)) := by
  rw [take_snoc h d, List.map_append, List.map_singleton, join_snoc, List.append_assoc]
  intro e
  have := congrArg List.length e
  rw [List.length_map, List.length_take, List.length_nil] at this
  omega
theorem join_first {α : Type} (f : α → List UInt8) (sep : List UInt8) {l : List α} (h : 0 < l.length) (d : α) : Go.Lib.join ((l.take 1).map f) sep = f (l.getD 0 d) := by
  cases l with
  | nil => simp at h
  | cons x r => simp [Go.Lib.join_one]

def noneT : List UInt8 := [110, 111, 110, 101]
/-- The text of numbers. -/
def numsT (l : List Nat) : List UInt8 := match l with
  | [] => noneT
  | l => Go.Lib.join (l.map hexW) [44]

theorem nums_len (l : List Nat) (i : Nat) : (Go.Lib.join ((l.take i).map hexW) [44]).length ≤ i * 9 := by
  have h := join_le [44] 8 ((l.take i).map hexW) (fun x hx => by
    obtain ⟨y, _, rfl⟩ := List.mem_map.1 hx
    rw [hexW_length]
    exact Nat.le_refl _)
  have h2 : ((l.take i).map hexW).length ≤ i := by simp; omega
  refine Nat.le_trans h ?_
  exact Nat.mul_le_mul_right _ h2

theorem getD_f32 {l : List Nat} (hf : ∀ x ∈ l, F32 x) {i : Nat} (h : i < l.length) : F32 (l.getD i default) := by
  rw [List.getD_eq_getElem?_getD, List.getElem?_eq_getElem h]
  exact hf _ (List.getElem_mem h)

theorem ntext_impl (l : List Nat) (hl : l.length ≤ 256) (hf : ∀ x ∈ l, F32 x) : impl_NumbersText_need l = true ∧ impl_NumbersText l = (numsT l, true) := by
  have hloop := loop_post (step := impl_NumbersText_loop0_step (l, ((l.length : Nat) : Int))) (fun s => ∃ i : Nat, s.1 = (i : Int) ∧ i ≤ l.length ∧ s.2 = (l.take i).map hexW) (fun s => l.length - s.1.toNat) (fun r => r = l.map hexW) (by
    rintro ⟨s, t⟩ ⟨i, hs, hi, ht⟩
    simp only at hs ht
    subst hs ht
    rcases Nat.lt_or_ge i l.length with hlt | hge
    · obtain ⟨g1, g2⟩ := hex_impl (l.getD i default) (getD_f32 hf hlt)
      refine ⟨.inl (((i + 1 : Nat) : Int), (l.take (i + 1)).map hexW), [65], ?_, ⟨i + 1, rfl, hlt, rfl⟩, ?_⟩
      · unfold impl_NumbersText_loop0_step
        have c2 : (decide ((List.length ((l.take i).map hexW) + List.length [hexW (l.getD i default)]) * 16 ≤ 140737488355328) && decide (List.length ((l.take i).map hexW) + List.length [hexW (l.getD i default)] ≤ 9223372036854775807)) = true := by
          rw [Bool.and_eq_true, decide_eq_true_eq, decide_eq_true_eq, List.length_map, List.length_take, List.length_singleton]
          omega
        have e : (l.take (i + 1)).map hexW = (l.take i).map hexW ++ [hexW (l.getD i default)] := by rw [take_snoc hlt default, List.map_append, List.map_singleton]
        simp only [DT.get, nat_dec hlt, nat_ge, Bool.and_self, Int.toNat_natCast, g1, g2, c2, nat_next hlt (Nat.le_trans hl (by decide)), e]
      · show l.length - ((i + 1 : Nat) : Int).toNat < l.length - ((i : Nat) : Int).toNat
        rw [Int.toNat_natCast, Int.toNat_natCast]
        omega
    · have he : i = l.length := Nat.le_antisymm hi hge
      refine ⟨.inr ((l.take i).map hexW), [0], ?_, ?_⟩
      · unfold impl_NumbersText_loop0_step
        simp only [DT.get, he, nat_not]
      · rw [he, List.take_length]) (0, []) ⟨0, rfl, Nat.zero_le _, rfl⟩
  have l1 : impl_NumbersText_loop0_ends (l, ((l.length : Nat) : Int)) (0, []) = true := hloop.1
  have l2 : impl_NumbersText_loop0 (l, ((l.length : Nat) : Int)) (0, []) = l.map hexW := hloop.2
  have hj : impl_joined_need (l.map hexW) = true ∧ impl_joined (l.map hexW) = numsT l := by
    have key : (impl_joined_tree (l.map hexW)).get = some (numsT l) := by
      unfold impl_joined_tree
      cases hn : l with
      | nil => rfl
      | cons y r =>
        rw [← hn]
        have hle := nums_len l l.length
        rw [List.take_length] at hle
        have h0 : 0 < l.length := by rw [hn]; simp
        have hv : numsT l = Go.Lib.join (l.map hexW) [44] := by rw [hn]; rfl
        have e1 : ((((List.length (l.map hexW) : Nat) : Int)) == 0) = false := by rw [beq_eq_false_iff_ne, List.length_map]; omega
        have e2 : (decide (List.length (l.map hexW) ≤ 140737488355328) && decide (List.length (Go.Lib.join (l.map hexW) [44]) ≤ 140737488355328)) = true := by
          rw [Bool.and_eq_true, decide_eq_true_eq, decide_eq_true_eq, List.length_map]; omega
        simp only [DT.get, e1, e2, hv]
    exact DT.of_get key
  have key : (impl_NumbersText_tree l).get = some (numsT l, true) := by
    unfold impl_NumbersText_tree
    have e1 : decide (((List.length l : Nat) : Int) > 256) = false := decide_eq_false (by omega)
    simp only [DT.get, e1, l1, l2, hj.1, hj.2]
  exact DT.of_get key

theorem vec_all {v : Vec} (h : v.fits) : ∀ x ∈ [v.X, v.Y, v.Z], F32 x := by
  intro x hx
  simp only [List.mem_cons, List.not_mem_nil, or_false] at hx
  rcases hx with rfl | rfl | rfl
  · exact h.1
  · exact h.2.1
  · exact h.2.2

def vecT (v : Vec) : List UInt8 := numsT [v.X, v.Y, v.Z]

theorem vec_impl (v : Vec) (h : v.fits) : impl_VectorText_need v = true ∧ impl_VectorText v = vecT v := by
  obtain ⟨h1, h2⟩ := ntext_impl [v.X, v.Y, v.Z] (by simp) (vec_all h)
  have hn : impl_Vector_numbers (⟨v.X, v.Y, v.Z⟩ : Vec) = [v.X, v.Y, v.Z] := rfl
  have key : (impl_VectorText_tree v).get = some (vecT v) := by
    unfold impl_VectorText_tree
    simp only [DT.get, hn, h1, h2, vecT]
  exact DT.of_get key

end Go.Proofs.YtacelaaifaffpaaGreatDoor
