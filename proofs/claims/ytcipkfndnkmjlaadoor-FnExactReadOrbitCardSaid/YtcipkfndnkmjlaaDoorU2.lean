/- Plain law of what is read, part 2: the numbers of a text: the reference's. -/
import Derived.Test.YtcipkfndnkmjlaaDoorU1
namespace Go.Proofs.YtcipkfndnkmjlaaDoor
set_option linter.unusedVariables false
set_option linter.unusedSimpArgs false

theorem u8_wrap (n : Int) : IntKind.wrap .u8 n = n % 256 := rfl

theorem chars_round (ws : List (List UInt8)) (xs : List Nat) (i k acc : Nat) (hi : i < ws.length) (h8 : (ws.getD i default).length = 8) (hk : k < 8) (ha : acc < 16 ^ 8) :
    ∃ fl, (spec_l01NRead_loop1_step (((i : Nat) : Int), xs, ws) (((acc : Nat) : Int), ((k : Nat) : Int))).get = some ((match lowV ((ws.getD i default).getD k 0) with
      | none => .inr (.inl ())
      | some d => .inl (((16 * acc + d : Nat) : Int), ((k + 1 : Nat) : Int))), fl) := by
  generalize hw : ws.getD i default = w at h8
  have hc := (w.getD k 0).toNat_lt
  have hn : (16 : Nat) ^ 8 = 4294967296 := by decide
  rw [hn] at ha
  have k8 : decide (((k : Nat) : Int) < 8) = true := decide_eq_true (by omega)
  have kin : decide (((k : Nat) : Int) < ((List.length w : Nat) : Int)) = true := decide_eq_true (by omega)
  have hw3 : IntKind.wrap .i64 (((k : Nat) : Int) + 1) = ((k + 1 : Nat) : Int) := by rw [wrap_small (by omega) (by omega)]; omega
  have hw4 : IntKind.wrap .i64 (16 * ((acc : Nat) : Int)) = 16 * ((acc : Nat) : Int) := wrap_small (by omega) (by omega)
  generalize hC : (w.getD k 0).toNat = c at hc
  have hlow : lowV (w.getD k 0) = if 48 ≤ c ∧ c ≤ 57 then some (c - 48) else if 97 ≤ c ∧ c ≤ 102 then some (c - 87) else none := by unfold lowV; rw [hC]
  rw [hlow]
  unfold spec_l01NRead_loop1_step
  by_cases h1 : 48 ≤ c ∧ c ≤ 57
  · rw [if_pos h1]
    have d1 : decide (((c : Nat) : Int) ≥ 48) = true := decide_eq_true (by omega)
    have d2 : decide (((c : Nat) : Int) ≤ 57) = true := decide_eq_true (by omega)
    have d3 : decide (((c : Nat) : Int) ≥ 97) = false := decide_eq_false (by omega)
    have e1 : IntKind.wrap .i64 (IntKind.wrap .u8 (((c : Nat) : Int) - 48)) = ((c - 48 : Nat) : Int) := by rw [u8_wrap, wrap_small (by omega) (by omega)]; omega
    have d4 : decide (((c - 48 : Nat) : Int) < 0) = false := decide_eq_false (by omega)
    have e2 : IntKind.wrap .i64 (16 * ((acc : Nat) : Int) + ((c - 48 : Nat) : Int)) = ((16 * acc + (c - 48) : Nat) : Int) := by rw [wrap_small (by omega) (by omega)]; omega
    refine ⟨[0, 1], ?_⟩
    simp only [DT.get, k8, nat_dec hi, nat_ge, Bool.and_self, Int.toNat_natCast, decide_eq_true hi, hw, kin, hC, d1, d2, d3, e1, d4, hw4, e2, hw3]
  · rw [if_neg h1]
    by_cases h2 : 97 ≤ c ∧ c ≤ 102
    · rw [if_pos h2]
      have d1 : decide (((c : Nat) : Int) ≥ 48) = true := decide_eq_true (by omega)
      have d2 : decide (((c : Nat) : Int) ≤ 57) = false := decide_eq_false (by omega)
      have d3 : decide (((c : Nat) : Int) ≥ 97) = true := decide_eq_true (by omega)
      have d5 : decide (((c : Nat) : Int) ≤ 102) = true := decide_eq_true (by omega)
      have e1 : IntKind.wrap .i64 (IntKind.wrap .i64 (IntKind.wrap .u8 (((c : Nat) : Int) - 97)) + 10) = ((c - 87 : Nat) : Int) := by
        rw [u8_wrap, wrap_small (n := (((c : Nat) : Int) - 97) % 256) (by omega) (by omega), wrap_small (by omega) (by omega)]; omega
      have d4 : decide (((c - 87 : Nat) : Int) < 0) = false := decide_eq_false (by omega)
      have e2 : IntKind.wrap .i64 (16 * ((acc : Nat) : Int) + ((c - 87 : Nat) : Int)) = ((16 * acc + (c - 87) : Nat) : Int) := by rw [wrap_small (by omega) (by omega)]; omega
      refine ⟨[0, 1], ?_⟩
      simp only [DT.get, k8, nat_dec hi, nat_ge, Bool.and_self, Int.toNat_natCast, decide_eq_true hi, hw, kin, hC, d1, d2, d3, d5, e1, d4, hw4, e2, hw3]
    · rw [if_neg h2]
      refine ⟨[], ?_⟩
      by_cases h3 : 48 ≤ c
      · have d1 : decide (((c : Nat) : Int) ≥ 48) = true := decide_eq_true (by omega)
        have d2 : decide (((c : Nat) : Int) ≤ 57) = false := decide_eq_false (by omega)
        by_cases h4 : 97 ≤ c
        · have d3 : decide (((c : Nat) : Int) ≥ 97) = true := decide_eq_true (by omega)
          have d5 : decide (((c : Nat) : Int) ≤ 102) = false := decide_eq_false (by omega)
          simp only [DT.get, k8, nat_dec hi, nat_ge, Bool.and_self, Int.toNat_natCast, decide_eq_true hi, hw, kin, hC, d1, d2, d3, d5]
        · have d3 : decide (((c : Nat) : Int) ≥ 97) = false := decide_eq_false (by omega)
          simp only [DT.get, k8, nat_dec hi, nat_ge, Bool.and_self, Int.toNat_natCast, decide_eq_true hi, hw, kin, hC, d1, d2, d3]
      · have d1 : decide (((c : Nat) : Int) ≥ 48) = false := decide_eq_false (by omega)
        have d3 : decide (((c : Nat) : Int) ≥ 97) = false := decide_eq_false (by omega)
        simp only [DT.get, k8, nat_dec hi, nat_ge, Bool.and_self, Int.toNat_natCast, decide_eq_true hi, hw, kin, hC, d1, d3]

def outH (w : List UInt8) : Unit ⊕ Int := match foldH 0 w with
  | none => .inl ()
  | some n => .inr ((n : Nat) : Int)

theorem foldH_drop {w : List UInt8} {k acc : Nat} (hk : k < w.length) : foldH acc (w.drop k) = match lowV (w.getD k 0) with
    | none => none
    | some d => foldH (16 * acc + d) (w.drop (k + 1)) := by
  rw [List.drop_eq_getElem_cons hk, List.getD_eq_getElem?_getD, List.getElem?_eq_getElem hk]
  rfl

theorem chars_spec (ws : List (List UInt8)) (xs : List Nat) (i : Nat) (hi : i < ws.length) (h8 : (ws.getD i default).length = 8) :
    spec_l01NRead_loop1_ends (((i : Nat) : Int), xs, ws) (0, 0) = true ∧ spec_l01NRead_loop1 (((i : Nat) : Int), xs, ws) (0, 0) = outH (ws.getD i default) := by
  refine loop_post (step := spec_l01NRead_loop1_step (((i : Nat) : Int), xs, ws)) (fun s => ∃ k acc : Nat, s.2 = (k : Int) ∧ s.1 = (acc : Int) ∧ k ≤ 8 ∧ acc < 16 ^ k ∧ foldH 0 (ws.getD i default) = foldH acc ((ws.getD i default).drop k)) (fun s => 8 - s.2.toNat) (fun r => r = outH (ws.getD i default)) ?_ (0, 0) ⟨0, 0, rfl, rfl, by omega, by decide, by rw [List.drop_zero]⟩
  rintro ⟨a, k'⟩ ⟨k, acc, hk', ha', hk, ha, hf⟩
  simp only at hk' ha'
  subst hk' ha'
  rcases Nat.lt_or_ge k 8 with hlt | hge
  · have ha8 : acc < 16 ^ 8 := Nat.lt_of_lt_of_le ha (Nat.pow_le_pow_right (by decide) (by omega))
    obtain ⟨fl, hr⟩ := chars_round ws xs i k acc hi h8 hlt ha8
    rw [foldH_drop (by rw [h8]; exact hlt)] at hf
    cases hq : lowV ((ws.getD i default).getD k 0) with
    | none =>
      rw [hq] at hr hf
      exact ⟨_, fl, hr, by unfold outH; rw [hf]⟩
    | some d =>
      rw [hq] at hr hf
      have hd := (low_hex _ d hq).2.1
      refine ⟨_, fl, hr, ⟨k + 1, 16 * acc + d, rfl, rfl, by omega, by rw [Nat.pow_succ]; omega, hf⟩, ?_⟩
      show 8 - ((k + 1 : Nat) : Int).toNat < 8 - ((k : Nat) : Int).toNat
      rw [Int.toNat_natCast, Int.toNat_natCast]
      omega
  · have he : k = 8 := by omega
    subst he
    rw [List.drop_eq_nil_of_le (by rw [h8]; exact Nat.le_refl _)] at hf
    refine ⟨.inr (.inr ((acc : Nat) : Int)), [0, 1], ?_, by unfold outH; rw [hf]; rfl⟩
    unfold spec_l01NRead_loop1_step
    have d : decide (((8 : Nat) : Int) < 8) = false := rfl
    simp only [DT.get, d]

theorem from_eq {n : Nat} (h : n < 4294967296) : spec_l01From ((n : Nat) : Int) = canon .f32 n := by
  have e : IntKind.wrap .u32 ((n : Nat) : Int) = ((n : Nat) : Int) := by
    show ((n : Nat) : Int) % 4294967296 = _
    omega
  unfold spec_l01From spec_l01From_tree
  simp only [e, DT.val, Int.toNat_natCast]

theorem words_spec (ws : List (List UInt8)) (hl : ws.length ≤ 256) (hw : ∀ w ∈ ws, w.length ≤ 2 ^ 40) : spec_l01NRead_loop0_ends ws (0, []) = true ∧ spec_l01NRead_loop0 ws (0, []) = outL ws := by
  refine loop_post (step := spec_l01NRead_loop0_step ws) (fun s => ∃ i : Nat, s.1 = (i : Int) ∧ i ≤ ws.length ∧ s.2.length = i ∧ readL ws = (readL (ws.drop i)).map (s.2 ++ ·)) (fun s => ws.length - s.1.toNat) (fun r => r = outL ws) ?_ (0, []) ⟨0, rfl, Nat.zero_le _, rfl, by simp⟩
  rintro ⟨s, xs⟩ ⟨i, hs, hi, hx, hr⟩
  simp only at hs hx hr
  subst hs
  rcases Nat.lt_or_ge i ws.length with hlt | hge
  · rw [readL_drop hlt] at hr
    have hlen := hw _ (getD_in (d := default) hlt)
    cases h8 : decide ((ws.getD i default).length = 8) with
    | false =>
      have hq : wordP (ws.getD i default) = none := by unfold wordP; rw [h8]
      rw [hq] at hr
      have d : (((List.length (ws.getD i default) : Nat) : Int) != 8) = true := by
        have := of_decide_eq_false h8
        rw [bne_iff_ne]; omega
      refine ⟨.inr (.inl ()), [], ?_, by unfold outL; rw [hr]; rfl⟩
      unfold spec_l01NRead_loop0_step
      simp only [DT.get, nat_dec hlt, nat_ge, Bool.and_self, Int.toNat_natCast, decide_eq_true hlt, d]
    | true =>
      have h8' := of_decide_eq_true h8
      have d : (((List.length (ws.getD i default) : Nat) : Int) != 8) = false := by rw [h8']; rfl
      obtain ⟨c1, c2⟩ := chars_spec ws xs i hlt h8'
      cases hf : foldH 0 (ws.getD i default) with
      | none =>
        have hq : wordP (ws.getD i default) = none := by unfold wordP; rw [h8]; simp only [hf]
        rw [hq] at hr
        unfold outH at c2
        rw [hf] at c2
        simp only at c2
        refine ⟨.inr (.inl ()), [], ?_, by unfold outL; rw [hr]; rfl⟩
        unfold spec_l01NRead_loop0_step
        simp only [DT.get, nat_dec hlt, nat_ge, Bool.and_self, Int.toNat_natCast, decide_eq_true hlt, d, c1, c2, isL]
      | some n =>
        have hn : n < 4294967296 := by
          have := foldH_lt hf
          rw [h8'] at this
          exact Nat.lt_of_lt_of_le this (by decide)
        unfold outH at c2
        rw [hf] at c2
        simp only at c2
        obtain ⟨b1, b2⟩ := nb_eq (canon_lt (n := n) (by omega))
        have hbn := (bits_eq (canon .f32 n)).2.1
        have hq : wordP (ws.getD i default) = bif nb (canon .f32 n) == n then some (canon .f32 n) else none := by unfold wordP; rw [h8]; simp only [hf]
        rw [hq] at hr
        cases he : nb (canon .f32 n) == n with
        | false =>
          rw [he] at hr
          simp only [cond_false] at hr
          have d2 : (((nb (canon .f32 n) : Nat) : Int) != ((n : Nat) : Int)) = true := by
            have := beq_eq_false_iff_ne.1 he
            rw [bne_iff_ne]; omega
          refine ⟨.inr (.inl ()), [], ?_, by unfold outL; rw [hr]; rfl⟩
          unfold spec_l01NRead_loop0_step
          simp only [DT.get, nat_dec hlt, nat_ge, Bool.and_self, Int.toNat_natCast, decide_eq_true hlt, d, c1, c2, isL, rightD, from_eq hn, hbn, b1, d2]
        | true =>
          rw [he] at hr
          simp only [cond_true] at hr
          have d2 : (((nb (canon .f32 n) : Nat) : Int) != ((n : Nat) : Int)) = false := by
            have := beq_iff_eq.1 he
            rw [this]; simp
          refine ⟨.inl (((i + 1 : Nat) : Int), xs ++ [canon .f32 n]), [82, 1], ?_, ⟨i + 1, rfl, hlt, by simp [hx], by rw [hr]; exact map_app⟩, ?_⟩
          · unfold spec_l01NRead_loop0_step
            have c : (decide ((List.length xs + List.length [canon .f32 n]) * 4 ≤ 140737488355328) && decide (List.length xs + List.length [canon .f32 n] ≤ 9223372036854775807)) = true := by
              rw [Bool.and_eq_true, decide_eq_true_eq, decide_eq_true_eq, List.length_singleton]; omega
            simp only [DT.get, nat_dec hlt, nat_ge, Bool.and_self, Int.toNat_natCast, decide_eq_true hlt, d, c1, c2, isL, rightD, from_eq hn, hbn, b1, d2, c, nat_next hlt (Nat.le_trans hl (by decide))]
          · show ws.length - ((i + 1 : Nat) : Int).toNat < ws.length - ((i : Nat) : Int).toNat
            rw [Int.toNat_natCast, Int.toNat_natCast]
            omega
  · have he : i = ws.length := Nat.le_antisymm hi hge
    refine ⟨.inr (.inr xs), [0], ?_, ?_⟩
    · unfold spec_l01NRead_loop0_step
      simp only [DT.get, he, nat_not]
    · unfold outL
      rw [hr, he, List.drop_length]
      simp [readL]

theorem nums_spec (a : List UInt8) (ha : a.length ≤ 2 ^ 30) : spec_l01NRead_need a = true ∧ spec_l01NRead a = outR a := by
  obtain ⟨s1, s2⟩ := C44.cut_eq a (by omega)
  have hw : ∀ w ∈ C44.cuts a, w.length ≤ 2 ^ 40 := fun w h => by have := C44.part_len a h; omega
  have key : (spec_l01NRead_tree a).get = some (outR a) := by
    unfold spec_l01NRead_tree outR numsR
    cases hq : (a == [110, 111, 110, 101]) with
    | true => simp only [DT.get]
    | false =>
      cases hm : decide ((C44.cuts a).length ≤ 256) with
      | false =>
        have d : decide (((List.length (C44.cuts a) : Nat) : Int) > 256) = true := by
          have := of_decide_eq_false hm
          exact decide_eq_true (by omega)
        simp only [DT.get, s1, s2, d]
      | true =>
        have d : decide (((List.length (C44.cuts a) : Nat) : Int) > 256) = false := by
          have := of_decide_eq_true hm
          exact decide_eq_false (by omega)
        obtain ⟨w1, w2⟩ := words_spec (C44.cuts a) (of_decide_eq_true hm) hw
        unfold outL at w2
        cases hr : readL (C44.cuts a) with
        | none =>
          rw [hr] at w2
          simp only at w2
          simp only [DT.get, s1, s2, d, w1, w2, isL]
        | some xs =>
          rw [hr] at w2
          simp only at w2
          simp only [DT.get, s1, s2, d, w1, w2, isL, rightD]
  exact DT.of_get key

end Go.Proofs.YtcipkfndnkmjlaaDoor
