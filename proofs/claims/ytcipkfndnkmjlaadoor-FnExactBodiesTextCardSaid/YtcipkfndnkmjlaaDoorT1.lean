/- Plain law of the texts, part 1: the digits of a number, and the texts of numbers: the program's and the reference's. -/
import Derived.Test.YtcipkfndnkmjlaaDoorG3
import Derived.Test.YtcipkfndnkmjlaaDoorEngX
import Derived.Test.YtcipkfndnkmjlaaDoorEngY
import Derived.Lib.Join
import Derived.Lib.Repeat
namespace Go.Proofs.YtcipkfndnkmjlaaDoor
set_option linter.unusedVariables false
set_option linter.unusedSimpArgs false

theorem bits_eq (x : Nat) : impl_BitsOf_need x = true ∧ spec_l01Bits_need x = true ∧ impl_BitsOf x = spec_l01Bits x ∧ (x < 2 ^ 32 → 0 ≤ spec_l01Bits x ∧ spec_l01Bits x < 2 ^ 32) := by
  have h : impl_BitsOf_tree x = spec_l01Bits_tree x := rfl
  have h2 : spec_l01Bits_need x = true ∧ (x < 2 ^ 32 → 0 ≤ spec_l01Bits x ∧ spec_l01Bits x < 2 ^ 32) := by
    unfold spec_l01Bits_need spec_l01Bits spec_l01Bits_tree
    simp only [fne_self]
    cases isNaN .f32 x with
    | true => exact ⟨rfl, fun _ => by simp only [DT.val]; decide⟩
    | false =>
      refine ⟨rfl, fun hx => ?_⟩
      simp only [DT.val]
      rw [wrap_small (by omega) (by omega)]
      omega
  refine ⟨?_, h2.1, ?_, h2.2⟩
  · unfold impl_BitsOf_need
    rw [h]
    exact h2.1
  · unfold impl_BitsOf spec_l01Bits
    rw [h]

/-- The bits of a number, and its eight digits. -/
def nb (x : Nat) : Nat := (spec_l01Bits x).toNat
def hexW (x : Nat) : List UInt8 := hexTail 8 (nb x)
theorem hexW_length (x : Nat) : (hexW x).length = 8 := hexTail_length _ _

theorem nb_eq {x : Nat} (hx : F32 x) : spec_l01Bits x = ((nb x : Nat) : Int) ∧ nb x < 4294967296 := by
  obtain ⟨h0, h1⟩ := (bits_eq x).2.2.2 hx
  unfold nb
  omega

theorem fdiv_pow (u k : Nat) : Int.fdiv (u : Int) (2 ^ k) = ((u / 2 ^ k : Nat) : Int) := by
  rw [Int.fdiv_eq_ediv_of_nonneg _ (by exact Int.le_of_lt (Int.pow_pos (by decide)))]
  rw [Int.natCast_ediv, Int.natCast_pow]
  rfl

theorem and15 (v : Nat) (hv : v < 2 ^ 62) : IntKind.wrap .i64 ((BitVec.ofInt (IntKind.bits .i64) (v : Int) &&& BitVec.ofInt (IntKind.bits .i64) 15).toNat : Int) = ((v % 16 : Nat) : Int) := by
  have h1 : (BitVec.ofInt (IntKind.bits .i64) (v : Int)).toNat = v := by
    rw [BitVec.ofInt_natCast, BitVec.toNat_ofNat]
    exact Nat.mod_eq_of_lt (Nat.lt_of_lt_of_le hv (by decide))
  have h2 : (BitVec.ofInt (IntKind.bits .i64) (15 : Int)).toNat = 15 := by decide
  rw [BitVec.toNat_and, h1, h2, show (15 : Nat) = 2 ^ 4 - 1 from rfl, Nat.and_two_pow_sub_one_eq_mod]
  exact wrap_small (by omega) (by omega)

theorem dig (u : Nat) (hu : u < 4294967296) (s : Int) (k : Nat) (h : s = k) (hk : k ≤ 28) : IntKind.wrap .i64 ((BitVec.ofInt (IntKind.bits .i64) (Int.fdiv (u : Int) (2 ^ (min (Int.toNat s) (IntKind.bits .i64)))) &&& BitVec.ofInt (IntKind.bits .i64) 15).toNat : Int) = ((u / 2 ^ k % 16 : Nat) : Int) := by
  subst h
  rw [Int.toNat_natCast, show min k (IntKind.bits .i64) = k from Nat.min_eq_left (Nat.le_trans hk (by decide)), fdiv_pow]
  exact and15 _ (Nat.lt_of_le_of_lt (Nat.div_le_self _ _) (by omega))

theorem nib_in {v : Nat} (h : v < 16) : (decide (0 ≤ ((v : Nat) : Int)) && decide (((v : Nat) : Int) < ((List.length [48, 49, 50, 51, 52, 53, 54, 55, 56, 57, 97, 98, 99, 100, 101, 102] : Nat) : Int))) = true := nat_in h

set_option maxRecDepth 10000 in
theorem hex_spec (x : Nat) (hx : F32 x) : spec_l01Hex_need x = true ∧ spec_l01Hex x = hexW x := by
  obtain ⟨hb, hu⟩ := nb_eq hx
  have key : (spec_l01Hex_tree x).get = some (hexW x) := by
    unfold spec_l01Hex_tree
    have n7 := nib_in (v := nb x / 2 ^ 28 % 16) (Nat.mod_lt _ (by decide))
    have n6 := nib_in (v := nb x / 2 ^ 24 % 16) (Nat.mod_lt _ (by decide))
    have n5 := nib_in (v := nb x / 2 ^ 20 % 16) (Nat.mod_lt _ (by decide))
    have n4 := nib_in (v := nb x / 2 ^ 16 % 16) (Nat.mod_lt _ (by decide))
    have n3 := nib_in (v := nb x / 2 ^ 12 % 16) (Nat.mod_lt _ (by decide))
    have n2 := nib_in (v := nb x / 2 ^ 8 % 16) (Nat.mod_lt _ (by decide))
    have n1 := nib_in (v := nb x / 2 ^ 4 % 16) (Nat.mod_lt _ (by decide))
    have n0 := nib_in (v := nb x / 2 ^ 0 % 16) (Nat.mod_lt _ (by decide))
    simp only [DT.get, (bits_eq x).2.1, hb, dig (nb x) hu 28 28 rfl (by decide), dig (nb x) hu 24 24 rfl (by decide), dig (nb x) hu 20 20 rfl (by decide), dig (nb x) hu 16 16 rfl (by decide),
      dig (nb x) hu 12 12 rfl (by decide), dig (nb x) hu 8 8 rfl (by decide), dig (nb x) hu 4 4 rfl (by decide), dig (nb x) hu 0 0 rfl (by decide), n7, n6, n5, n4, n3, n2, n1, n0]
    simp only [Int.toNat_natCast, List.nil_append, List.cons_append, strOf, List.map_cons, List.map_nil, UInt8.ofNat_toNat]
    rfl
  exact DT.of_get key

theorem hex_impl (x : Nat) (hx : F32 x) : impl_digits_need x = true ∧ impl_digits x = hexW x := by
  obtain ⟨hb, hu⟩ := nb_eq hx
  obtain ⟨h8, hp⟩ := hex_pad hu
  have hlen := hexText_length (nb x)
  have hpos := hexLen_pos (nb x)
  have key : (impl_digits_tree x).get = some (hexW x) := by
    unfold impl_digits_tree
    have e3 : IntKind.wrap .i64 (8 - ((List.length (hexText (nb x)) : Nat) : Int)) = ((8 - hexLen (nb x) : Nat) : Int) := by
      rw [hlen, wrap_small (by omega) (by omega)]
      omega
    have c1 : (decide ((0 : Int) ≤ ((nb x : Nat) : Int)) && decide (((nb x : Nat) : Int) ≤ 9223372036854775807)) = true := by
      rw [Bool.and_eq_true, decide_eq_true_eq, decide_eq_true_eq]; omega
    have c2 : (decide ((0 : Int) ≤ ((8 - hexLen (nb x) : Nat) : Int)) && decide (((8 - hexLen (nb x) : Nat) : Int) ≤ 9223372036854775807) && decide (List.length [48] * (8 - hexLen (nb x)) ≤ 140737488355328)) = true := by
      simp only [Bool.and_eq_true, decide_eq_true_eq, List.length_singleton]; omega
    have er : Go.Lib.repeatL ([48] : List UInt8) (8 - hexLen (nb x)) = List.replicate (8 - hexLen (nb x)) 48 := by
      generalize 8 - hexLen (nb x) = k
      induction k with
      | zero => rfl
      | succ k ih => rw [Go.Lib.repeatL, ih, List.replicate_succ]; rfl
    have c3 : decide (List.length (List.replicate (8 - hexLen (nb x)) (48 : UInt8)) + List.length (hexText (nb x)) ≤ 9223372036854775807) = true := by
      rw [decide_eq_true_eq, List.length_replicate, hlen]; omega
    simp only [DT.get, (bits_eq x).1, (bits_eq x).2.2.1, hb, c1, Int.toNat_natCast, e3, c2, er, c3, hp]
    rfl
  exact DT.of_get key

/-! ## Texts between marks -/

theorem join_snoc (sep y : List UInt8) {xs : List (List UInt8)} (h : xs ≠ []) : Go.Lib.join (xs ++ [y]) sep = Go.Lib.join xs sep ++ sep ++ y := by
  cases xs with
  | nil => exact absurd rfl h
  | cons x r =>
    rw [List.cons_append, Go.Lib.join_cons, Go.Lib.join_cons]
    simp [Go.Lib.joinTail, List.append_assoc]

theorem join_le (sep : List UInt8) (B : Nat) : ∀ (xs : List (List UInt8)), (∀ x ∈ xs, x.length ≤ B) → (Go.Lib.join xs sep).length ≤ xs.length * (B + sep.length)
  | [], _ => by simp [Go.Lib.join_nil]
  | x :: r, h => by
    rw [Go.Lib.join_length]
    have hl : Go.Lib.lens (x :: r) ≤ (r.length + 1) * B := by
      have : ∀ l : List (List UInt8), (∀ x ∈ l, x.length ≤ B) → Go.Lib.lens l ≤ l.length * B := by
        intro l
        induction l with
        | nil => intro _; simp [Go.Lib.lens]
        | cons y l ih =>
          intro hl
          have h1 := hl y (List.mem_cons_self ..)
          have h2 := ih fun z hz => hl z (List.mem_cons_of_mem _ hz)
          simp only [Go.Lib.lens, List.map_cons, List.sum_cons, List.length_cons, Nat.succ_mul] at h2 ⊢
          omega
      exact this _ h
    rw [List.length_cons, Nat.mul_add, Nat.succ_mul, Nat.mul_comm sep.length]
    rw [Nat.succ_mul] at hl
    rw [Nat.succ_mul]
    omega

theorem take_snoc {α : Type} {l : List α} {i : Nat} (h : i < l.length) (d : α) : l.take (i + 1) = l.take i ++ [l.getD i d] := by
  rw [List.take_add_one, List.getElem?_eq_getElem h, List.getD_eq_getElem?_getD, List.getElem?_eq_getElem h]
  rfl

/-- What stands between marks, up to a place. -/
theorem join_step {α : Type} (f : α → List UInt8) (sep : List UInt8) {l : List α} {i : Nat} (h : i < l.length) (h1 : 1 ≤ i) (d : α) : Go.Lib.join ((l.take (i + 1)).map f) sep = Go.Lib.join ((l.take i).map f) sep ++ (sep ++ f (l.getD i d)) := by
  rw [take_snoc h d, List.map_append, List.map_singleton, join_snoc, List.append_assoc]
  intro e
  have := congrArg List.length e
  rw [List.length_map, List.length_take, List.length_nil] at this
  omega
theorem join_first {α : Type} (f : α → List UInt8) (sep : List UInt8) {l : List α} (h : 0 < l.length) (d : α) : Go.Lib.join ((l.take 1).map f) sep = f (l.getD 0 d) := by
  cases l with
  | nil => simp at h
  | cons x r => simp [Go.Lib.join_one]

def noneT : List UInt8 := [110, 111, 110, 101]
/-- The text of numbers. -/
def numsT (l : List Nat) : List UInt8 := match l with
  | [] => noneT
  | l => Go.Lib.join (l.map hexW) [44]

theorem nums_len (l : List Nat) (i : Nat) : (Go.Lib.join ((l.take i).map hexW) [44]).length ≤ i * 9 := by
  have h := join_le [44] 8 ((l.take i).map hexW) (fun x hx => by
    obtain ⟨y, _, rfl⟩ := List.mem_map.1 hx
    rw [hexW_length]
    exact Nat.le_refl _)
  have h2 : ((l.take i).map hexW).length ≤ i := by simp; omega
  refine Nat.le_trans h ?_
  exact Nat.mul_le_mul_right _ h2

theorem getD_f32 {l : List Nat} (hf : ∀ x ∈ l, F32 x) {i : Nat} (h : i < l.length) : F32 (l.getD i default) := by
  rw [List.getD_eq_getElem?_getD, List.getElem?_eq_getElem h]
  exact hf _ (List.getElem_mem h)

theorem nums_spec (l : List Nat) (hl : l.length ≤ 2 ^ 40) (hf : ∀ x ∈ l, F32 x) : spec_l01NText_need l = true ∧ spec_l01NText l = numsT l := by
  cases hn : l with
  | nil => exact ⟨rfl, rfl⟩
  | cons y r =>
    rw [← hn]
    have h0 : 0 < l.length := by rw [hn]; simp
    have hv : numsT l = Go.Lib.join (l.map hexW) [44] := by rw [hn]; rfl
    have hloop := loop_post (step := spec_l01NText_loop0_step l) (fun s => ∃ i : Nat, s.2 = (i : Int) ∧ 1 ≤ i ∧ i ≤ l.length ∧ s.1 = Go.Lib.join ((l.take i).map hexW) [44]) (fun s => l.length - s.2.toNat) (fun r => r = Go.Lib.join (l.map hexW) [44]) (by
      rintro ⟨t, s⟩ ⟨i, hs, h1, hi, ht⟩
      simp only at hs ht
      subst hs ht
      rcases Nat.lt_or_ge i l.length with hlt | hge
      · obtain ⟨g1, g2⟩ := hex_spec (l.getD i default) (getD_f32 hf hlt)
        have hle := nums_len l i
        refine ⟨.inl (Go.Lib.join ((l.take (i + 1)).map hexW) [44], ((i + 1 : Nat) : Int)), [], ?_, ⟨i + 1, rfl, by omega, hlt, rfl⟩, ?_⟩
        · unfold spec_l01NText_loop0_step
          have c1 : decide (List.length [44] + List.length (hexW (l.getD i default)) ≤ 9223372036854775807) = true := by
            rw [decide_eq_true_eq, hexW_length]; decide
          have c2 : decide (List.length (Go.Lib.join ((l.take i).map hexW) [44]) + List.length ([44] ++ hexW (l.getD i default)) ≤ 9223372036854775807) = true := by
            rw [decide_eq_true_eq, List.length_append, hexW_length, List.length_singleton]
            omega
          simp only [DT.get, nat_dec hlt, nat_ge, Bool.and_self, Int.toNat_natCast, g1, g2, c1, c2, nat_next hlt (Nat.le_trans hl (by decide)), join_step hexW [44] hlt h1 default]
        · show l.length - ((i + 1 : Nat) : Int).toNat < l.length - ((i : Nat) : Int).toNat
          rw [Int.toNat_natCast, Int.toNat_natCast]
          omega
      · have he : i = l.length := Nat.le_antisymm hi hge
        refine ⟨.inr (Go.Lib.join ((l.take i).map hexW) [44]), [], ?_, ?_⟩
        · unfold spec_l01NText_loop0_step
          simp only [DT.get, he, nat_not]
        · rw [he, List.take_length]) (hexW (l.getD 0 default), 1) ⟨1, rfl, Nat.le_refl _, h0, (join_first hexW [44] h0 default).symm⟩
    obtain ⟨g1, g2⟩ := hex_spec (l.getD 0 default) (getD_f32 hf h0)
    have e1 : ((((List.length l : Nat) : Int)) == 0) = false := by rw [beq_eq_false_iff_ne]; omega
    have e2 : (decide (0 ≤ 0) && decide (0 < ((List.length l : Nat) : Int))) = true := by rw [Bool.and_eq_true, decide_eq_true_eq, decide_eq_true_eq]; omega
    have key : (spec_l01NText_tree l).get = some (numsT l) := by
      unfold spec_l01NText_tree
      have l1 : spec_l01NText_loop0_ends l (hexW (l.getD 0 default), 1) = true := hloop.1
      have l2 : spec_l01NText_loop0 l (hexW (l.getD 0 default), 1) = _ := hloop.2
      simp only [DT.get, e1, e2, g1, g2, l1, l2, hv]
    exact DT.of_get key

theorem nums_impl (l : List Nat) (hl : l.length ≤ 256) (hf : ∀ x ∈ l, F32 x) : impl_NumbersText_need l = true ∧ impl_NumbersText l = (numsT l, true) := by
  have hloop := loop_post (step := impl_NumbersText_loop0_step (l, ((l.length : Nat) : Int))) (fun s => ∃ i : Nat, s.1 = (i : Int) ∧ i ≤ l.length ∧ s.2 = (l.take i).map hexW) (fun s => l.length - s.1.toNat) (fun r => r = l.map hexW) (by
    rintro ⟨s, t⟩ ⟨i, hs, hi, ht⟩
    simp only at hs ht
    subst hs ht
    rcases Nat.lt_or_ge i l.length with hlt | hge
    · obtain ⟨g1, g2⟩ := hex_impl (l.getD i default) (getD_f32 hf hlt)
      refine ⟨.inl (((i + 1 : Nat) : Int), (l.take (i + 1)).map hexW), [65], ?_, ⟨i + 1, rfl, hlt, rfl⟩, ?_⟩
      · unfold impl_NumbersText_loop0_step
        have c2 : (decide ((List.length ((l.take i).map hexW) + List.length [hexW (l.getD i default)]) * 16 ≤ 140737488355328) && decide (List.length ((l.take i).map hexW) + List.length [hexW (l.getD i default)] ≤ 9223372036854775807)) = true := by
          rw [Bool.and_eq_true, decide_eq_true_eq, decide_eq_true_eq, List.length_map, List.length_take, List.length_singleton]
          omega
        have e : (l.take (i + 1)).map hexW = (l.take i).map hexW ++ [hexW (l.getD i default)] := by rw [take_snoc hlt default, List.map_append, List.map_singleton]
        simp only [DT.get, nat_dec hlt, nat_ge, Bool.and_self, Int.toNat_natCast, g1, g2, c2, nat_next hlt (Nat.le_trans hl (by decide)), e]
      · show l.length - ((i + 1 : Nat) : Int).toNat < l.length - ((i : Nat) : Int).toNat
        rw [Int.toNat_natCast, Int.toNat_natCast]
        omega
    · have he : i = l.length := Nat.le_antisymm hi hge
      refine ⟨.inr ((l.take i).map hexW), [0], ?_, ?_⟩
      · unfold impl_NumbersText_loop0_step
        simp only [DT.get, he, nat_not]
      · rw [he, List.take_length]) (0, []) ⟨0, rfl, Nat.zero_le _, rfl⟩
  have l1 : impl_NumbersText_loop0_ends (l, ((l.length : Nat) : Int)) (0, []) = true := hloop.1
  have l2 : impl_NumbersText_loop0 (l, ((l.length : Nat) : Int)) (0, []) = l.map hexW := hloop.2
  have hj : impl_joined_need (l.map hexW) = true ∧ impl_joined (l.map hexW) = numsT l := by
    have key : (impl_joined_tree (l.map hexW)).get = some (numsT l) := by
      unfold impl_joined_tree
      cases hn : l with
      | nil => rfl
      | cons y r =>
        rw [← hn]
        have hle := nums_len l l.length
        rw [List.take_length] at hle
        have h0 : 0 < l.length := by rw [hn]; simp
        have hv : numsT l = Go.Lib.join (l.map hexW) [44] := by rw [hn]; rfl
        have e1 : ((((List.length (l.map hexW) : Nat) : Int)) == 0) = false := by rw [beq_eq_false_iff_ne, List.length_map]; omega
        have e2 : (decide (List.length (l.map hexW) ≤ 140737488355328) && decide (List.length (Go.Lib.join (l.map hexW) [44]) ≤ 140737488355328)) = true := by
          rw [Bool.and_eq_true, decide_eq_true_eq, decide_eq_true_eq, List.length_map]; omega
        simp only [DT.get, e1, e2, hv]
    exact DT.of_get key
  have key : (impl_NumbersText_tree l).get = some (numsT l, true) := by
    unfold impl_NumbersText_tree
    have e1 : decide (((List.length l : Nat) : Int) > 256) = false := decide_eq_false (by omega)
    simp only [DT.get, e1, l1, l2, hj.1, hj.2]
  exact DT.of_get key

theorem few_impl (l : List Nat) (hl : l.length ≤ 256) (hf : ∀ x ∈ l, F32 x) : impl_few_need l = true ∧ impl_few l = numsT l := by
  obtain ⟨h1, h2⟩ := nums_impl l hl hf
  have key : (impl_few_tree l).get = some (numsT l) := by
    unfold impl_few_tree
    simp only [DT.get, h1, h2]
  exact DT.of_get key

/-! ## Vectors -/

theorem vec_all {v : Vec} (h : v.fits) : ∀ x ∈ [v.X, v.Y, v.Z], F32 x := by
  intro x hx
  simp only [List.mem_cons, List.not_mem_nil, or_false] at hx
  rcases hx with rfl | rfl | rfl
  · exact h.1
  · exact h.2.1
  · exact h.2.2

def vecT (v : Vec) : List UInt8 := numsT [v.X, v.Y, v.Z]

theorem vec_spec (v : Vec) (h : v.fits) : spec_l01VText_need v = true ∧ spec_l01VText v = vecT v := by
  obtain ⟨h1, h2⟩ := nums_spec [v.X, v.Y, v.Z] (by simp) (vec_all h)
  have key : (spec_l01VText_tree v).get = some (vecT v) := by
    unfold spec_l01VText_tree
    simp only [DT.get, h1, h2, vecT]
  exact DT.of_get key

theorem vec_impl (v : Vec) (h : v.fits) : impl_VectorText_need v = true ∧ impl_VectorText v = vecT v := by
  obtain ⟨h1, h2⟩ := nums_impl [v.X, v.Y, v.Z] (by simp) (vec_all h)
  have hn : impl_Vector_numbers (⟨v.X, v.Y, v.Z⟩ : Vec) = [v.X, v.Y, v.Z] := rfl
  have key : (impl_VectorText_tree v).get = some (vecT v) := by
    unfold impl_VectorText_tree
    simp only [DT.get, hn, h1, h2, vecT]
  exact DT.of_get key

theorem plain3 (v : Vec) (h : v.fits) : laws_FnExactVectorText_need v = true ∧ laws_FnExactVectorText v = true := by
  have e : laws_toVector (⟨v.X, v.Y, v.Z⟩ : Vec) = v := rfl
  obtain ⟨a1, a2⟩ := vec_spec v h
  obtain ⟨b1, b2⟩ := vec_impl v h
  have s : spec_VectorText_need v = true ∧ spec_VectorText v = vecT v := by
    have key : (spec_VectorText_tree v).get = some (vecT v) := by
      unfold spec_VectorText_tree
      have e1 : (⟨v.X, v.Y, v.Z⟩ : Vec) = v := rfl
      simp only [DT.get, e1, a1, a2]
    exact DT.of_get key
  have key : (laws_FnExactVectorText_tree v).get = some true := by
    unfold laws_FnExactVectorText_tree
    have e1 : (⟨v.X, v.Y, v.Z⟩ : Vec) = v := rfl
    simp only [DT.get, e, e1, s.1, s.2, b1, b2, beq_self_eq_true, Bool.not_true]
  exact DT.of_get key

end Go.Proofs.YtcipkfndnkmjlaaDoor
