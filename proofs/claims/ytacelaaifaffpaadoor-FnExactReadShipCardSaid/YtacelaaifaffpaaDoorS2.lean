/- Plain law of a ship that is read, part 2: complex numbers and ships: the program's and the reference's; the law. -/
import Derived.Test.YtacelaaifaffpaaDoorS1
namespace Go.Proofs.YtacelaaifaffpaaDoor
set_option linter.unusedVariables false
set_option linter.unusedSimpArgs false

theorem IsFinite_need (x : Nat) : impl_IsFinite_need x = true := by
  unfold impl_IsFinite_need impl_IsFinite_tree
  simp only [DT.ok, fconvOk_up]
theorem l01Finite_eq (x : Nat) : spec_l01Finite x = isNum .f32 x := finite_same .f32 x
theorem math_Abs_eq {x : Nat} (h : isNaN .f64 x = false) : math_Abs x = fabs x := by
  unfold math_Abs math_Abs_tree
  simp only [DT.val, h]
  rfl
theorem impl_finite_eq (x : Nat) : impl_finite x = isNum .f64 x := by
  unfold impl_finite impl_finite_tree
  have h1 : math_IsNaN x = isNaN .f64 x := fne_self .f64 x
  simp only [DT.val, h1]
  cases hn : isNaN .f64 x with
  | true =>
    rcases kinds .f64 x with ⟨s, m, p, hd, h1, h2⟩ | ⟨s, hd, h1, h2⟩ | ⟨s, t, hd, h1, h2⟩
    · rw [h2] at hn; cases hn
    · rw [h2] at hn; cases hn
    · rw [h1]; rfl
  | false =>
    have h2 : math_IsInf x 0 = fgt .f64 (math_Abs x) 9218868437227405311 := rfl
    rw [h2, math_Abs_eq hn, inf_abs hn]
    simp
theorem IsFinite_eq (x : Nat) : impl_IsFinite x = isNum .f32 x := by
  show impl_finite (fconv .f32 x .f64) = _
  rw [impl_finite_eq, isNum_up]

theorem sameFloat_self (x : Nat) : laws_sameFloat x x = true := by
  unfold laws_sameFloat laws_sameFloat_tree
  cases h1 : fne .f64 x x with
  | true => simp only [DT.val, h1]
  | false =>
    have h2 : feq .f64 x x = true := by
      have := fne_feq .f64 x x
      rw [h1] at this
      simpa using this.symm
    cases h3 : feq .f64 x 0 <;> simp only [DT.val, h1, h3, h2, beq_self_eq_true]

/-! ## Words of sixteen digits -/

def wordC (w : List UInt8) : Option (Nat × Nat) := match decide (w.length = 16) with
  | false => none
  | true => match wordP (w.take 8), wordP (w.drop 8) with
    | some x, some y => some (x, y)
    | _, _ => none

def readC : List (List UInt8) → Option (List (Nat × Nat))
  | [] => some []
  | w :: r => match wordC w with
    | none => none
    | some x => (readC r).map (x :: ·)

def compR (a : List UInt8) : Option (List (Nat × Nat)) := match a == [110, 111, 110, 101] with
  | true => some []
  | false => match decide ((C44.cuts a).length ≤ 256) with
    | false => none
    | true => readC (C44.cuts a)

theorem readC_drop {ws : List (List UInt8)} {i : Nat} (h : i < ws.length) : readC (ws.drop i) = match wordC (ws.getD i default) with
    | none => none
    | some x => (readC (ws.drop (i + 1))).map (x :: ·) := by
  rw [List.drop_eq_getElem_cons h, List.getD_eq_getElem?_getD, List.getElem?_eq_getElem h]
  rfl

theorem map_appC {o : Option (List (Nat × Nat))} {xs : List (Nat × Nat)} {x : Nat × Nat} : (o.map (x :: ·)).map (xs ++ ·) = o.map ((xs ++ [x]) ++ ·) := by
  cases o <;> simp

theorem getD_in {α : Type} {l : List α} {d : α} {i : Nat} (h : i < l.length) : l.getD i d ∈ l := by
  rw [List.getD_eq_getElem?_getD, List.getElem?_eq_getElem h]
  exact List.getElem_mem h

def outC (ws : List (List UInt8)) : Unit ⊕ List (Nat × Nat) := match readC ws with
  | none => .inl ()
  | some xs => .inr xs

theorem halves {w : List UInt8} (h : w.length = 16) : (List.drop 0 (List.take 8 w) = w.take 8 ∧ List.drop 8 (List.take (List.length w) w) = w.drop 8) ∧ (w.take 8).length = 8 ∧ (w.drop 8).length = 8 := by
  refine ⟨⟨List.drop_zero, by rw [List.take_length]⟩, by rw [List.length_take]; omega, by rw [List.length_drop]; omega⟩

theorem wordC_len {w : List UInt8} (h : w.length = 16) : wordC w = match wordP (w.take 8), wordP (w.drop 8) with
    | some x, some y => some (x, y)
    | _, _ => none := by
  unfold wordC
  rw [decide_eq_true h]

theorem len16 (w : List UInt8) (b : Bool) (h : decide (w.length = 16) = b) : (((List.length w : Nat) : Int) != 16) = !b := by
  cases b with
  | true => rw [of_decide_eq_true h]; rfl
  | false =>
    have := of_decide_eq_false h
    show _ = true
    rw [bne_iff_ne]; omega

theorem words_impl (ws : List (List UInt8)) (hl : ws.length ≤ 256) (hw : ∀ w ∈ ws, w.length ≤ 2 ^ 40) : impl_ReadComplex_loop0_ends (true, ((ws.length : Nat) : Int), ws) (0, []) = true ∧ impl_ReadComplex_loop0 (true, ((ws.length : Nat) : Int), ws) (0, []) = outC ws := by
  refine loop_post (step := impl_ReadComplex_loop0_step (true, ((ws.length : Nat) : Int), ws)) (fun s => ∃ i : Nat, s.1 = (i : Int) ∧ i ≤ ws.length ∧ s.2.length = i ∧ readC ws = (readC (ws.drop i)).map (s.2 ++ ·)) (fun s => ws.length - s.1.toNat) (fun r => r = outC ws) ?_ (0, []) ⟨0, rfl, Nat.zero_le _, rfl, by simp⟩
  rintro ⟨s, xs⟩ ⟨i, hs, hi, hx, hr⟩
  simp only at hs hx hr
  subst hs
  rcases Nat.lt_or_ge i ws.length with hlt | hge
  · rw [readC_drop hlt] at hr
    have hwl := hw _ (getD_in (d := default) hlt)
    generalize hW : ws.getD i default = w at hr hwl
    cases h16 : decide (w.length = 16) with
    | false =>
      have hd := len16 w false h16
      have hq : wordC w = none := by unfold wordC; rw [h16]
      rw [hq] at hr
      refine ⟨.inr (.inl ()), [], ?_, by unfold outC; rw [hr]; rfl⟩
      unfold impl_ReadComplex_loop0_step
      simp only [DT.get, nat_dec hlt, nat_ge, Bool.and_self, Int.toNat_natCast, decide_eq_true hlt, hW, Bool.not_true, hd, Bool.not_false]
    | true =>
      have h16' := of_decide_eq_true h16
      have hd := len16 w true h16
      obtain ⟨⟨e1, e2⟩, l1, l2⟩ := halves h16'
      have n1 := read_need (w.take 8) (by rw [l1]; decide)
      have n2 := read_need (w.drop 8) (by rw [l2]; decide)
      obtain ⟨v1, v2⟩ := read_val (w.take 8)
      obtain ⟨v3, v4⟩ := read_val (w.drop 8)
      have g8n : decide (0 ≤ 8) = true := rfl
      have g8i : decide ((0 : Int) ≤ 8) = true := rfl
      have g8 : decide ((8 : Int) ≤ ((List.length w : Nat) : Int)) = true := by
        rw [h16']; rfl
      rw [wordC_len h16'] at hr
      cases hp : wordP (w.take 8) with
      | none =>
        rw [hp] at hr v1
        refine ⟨.inr (.inl ()), [], ?_, by unfold outC; rw [hr]; rfl⟩
        unfold impl_ReadComplex_loop0_step
        simp only [DT.get, nat_dec hlt, nat_ge, Bool.and_self, Int.toNat_natCast, decide_eq_true hlt, hW, Bool.not_true, hd, g8n, g8i, g8, e1, e2, n1, n2, v1, Option.isSome_none, Bool.not_false]
      | some x =>
        cases hp2 : wordP (w.drop 8) with
        | none =>
          rw [hp, hp2] at hr
          rw [hp] at v1
          rw [hp2] at v3
          refine ⟨.inr (.inl ()), [], ?_, by unfold outC; rw [hr]; rfl⟩
          unfold impl_ReadComplex_loop0_step
          simp only [DT.get, nat_dec hlt, nat_ge, Bool.and_self, Int.toNat_natCast, decide_eq_true hlt, hW, Bool.not_true, hd, g8n, g8i, g8, e1, e2, n1, n2, v1, v3, Option.isSome_none, Option.isSome_some, Bool.not_false]
        | some y =>
          rw [hp, hp2] at hr
          have v2 := v2 x hp
          have v4 := v4 y hp2
          rw [hp] at v1
          rw [hp2] at v3
          refine ⟨.inl (((i + 1 : Nat) : Int), xs ++ [(x, y)]), [306, 1], ?_, ⟨i + 1, rfl, hlt, by simp [hx], by rw [hr]; exact map_appC⟩, ?_⟩
          · unfold impl_ReadComplex_loop0_step
            have c : (decide ((List.length xs + List.length [(x, y)]) * 8 ≤ 140737488355328) && decide (List.length xs + List.length [(x, y)] ≤ 9223372036854775807)) = true := by
              rw [Bool.and_eq_true, decide_eq_true_eq, decide_eq_true_eq, List.length_singleton]; omega
            simp only [DT.get, nat_dec hlt, nat_ge, Bool.and_self, Int.toNat_natCast, decide_eq_true hlt, hW, Bool.not_true, hd, g8n, g8i, g8, e1, e2, n1, n2, v1, v2, v3, v4, Option.isSome_some, c, nat_next hlt (Nat.le_trans hl (by decide))]
          · show ws.length - ((i + 1 : Nat) : Int).toNat < ws.length - ((i : Nat) : Int).toNat
            rw [Int.toNat_natCast, Int.toNat_natCast]
            omega
  · have he : i = ws.length := Nat.le_antisymm hi hge
    refine ⟨.inr (.inr xs), [0], ?_, ?_⟩
    · unfold impl_ReadComplex_loop0_step
      simp only [DT.get, he, nat_not]
    · unfold outC
      rw [hr, he, List.drop_length]
      simp [readC]

/-- Too many words: none is read. -/
theorem words_many (ws : List (List UInt8)) (h0 : 0 < ws.length) : impl_ReadComplex_loop0_ends (false, ((ws.length : Nat) : Int), ws) (0, []) = true ∧ impl_ReadComplex_loop0 (false, ((ws.length : Nat) : Int), ws) (0, []) = .inl () := by
  refine loop_post (step := impl_ReadComplex_loop0_step (false, ((ws.length : Nat) : Int), ws)) (fun s => s.1 = 0) (fun s => 0) (fun r => r = .inl ()) ?_ (0, []) rfl
  rintro ⟨s, xs⟩ hs
  simp only at hs
  subst hs
  have d1 : decide ((0 : Int) < ((ws.length : Nat) : Int)) = true := decide_eq_true (by omega)
  have d2 : decide ((0 : Int) ≤ 0) = true := rfl
  have d3 : decide (Int.toNat 0 < List.length ws) = true := decide_eq_true h0
  have d4 : Int.toNat 0 = 0 := rfl
  have d5 : decide (0 < List.length ws) = true := decide_eq_true h0
  refine ⟨.inr (.inl ()), [], ?_, rfl⟩
  unfold impl_ReadComplex_loop0_step
  simp only [DT.get, d1, d2, d3, d4, d5, Bool.and_self, Bool.not_false]

def outR (a : List UInt8) : List (Nat × Nat) ⊕ Unit := match compR a with
  | none => .inr ()
  | some xs => .inl xs

theorem comp_impl (a : List UInt8) (ha : a.length ≤ 2 ^ 30) : impl_ReadComplex_need a = true ∧ impl_ReadComplex a = outR a := by
  have hp : impl_apart_need a = true ∧ impl_apart a = bif a == [110, 111, 110, 101] then .inl () else .inr (C44.cuts a, decide ((C44.cuts a).length ≤ 256)) := by
    obtain ⟨s1, s2⟩ := C44.split_eq a (by omega)
    have key : (impl_apart_tree a).get = some (bif a == [110, 111, 110, 101] then .inl () else .inr (C44.cuts a, decide ((C44.cuts a).length ≤ 256))) := by
      unfold impl_apart_tree
      have e : decide (((List.length (C44.cuts a) : Nat) : Int) ≤ 256) = decide ((C44.cuts a).length ≤ 256) := by rw [decide_eq_decide]; omega
      cases hq : (a == [110, 111, 110, 101]) <;> simp only [DT.get, hq, s1, s2, e, cond_true, cond_false]
    exact DT.of_get key
  obtain ⟨p1, p2⟩ := hp
  have hw : ∀ w ∈ C44.cuts a, w.length ≤ 2 ^ 40 := fun w h => by have := C44.part_len a h; omega
  have key : (impl_ReadComplex_tree a).get = some (outR a) := by
    unfold impl_ReadComplex_tree outR compR
    cases hq : (a == [110, 111, 110, 101]) with
    | true =>
      rw [hq] at p2
      simp only [cond_true] at p2
      simp only [DT.get, p1, p2, isL]
    | false =>
      rw [hq] at p2
      simp only [cond_false] at p2
      cases hm : decide ((C44.cuts a).length ≤ 256) with
      | false =>
        rw [hm] at p2
        obtain ⟨w1, w2⟩ := words_many (C44.cuts a) (C44.cuts_pos a)
        simp only [DT.get, p1, p2, isL, rightD, w1, w2]
      | true =>
        rw [hm] at p2
        obtain ⟨w1, w2⟩ := words_impl (C44.cuts a) (of_decide_eq_true hm) hw
        unfold outC at w2
        cases hr : readC (C44.cuts a) with
        | none =>
          rw [hr] at w2
          simp only at w2
          simp only [DT.get, p1, p2, isL, rightD, w1, w2]
        | some xs =>
          rw [hr] at w2
          simp only at w2
          simp only [DT.get, p1, p2, isL, rightD, w1, w2, Bool.not_true]
  exact DT.of_get key

theorem words_spec (ws : List (List UInt8)) (hl : ws.length ≤ 256) : spec_l01CRead_loop0_ends ws (0, []) = true ∧ spec_l01CRead_loop0 ws (0, []) = outC ws := by
  refine loop_post (step := spec_l01CRead_loop0_step ws) (fun s => ∃ i : Nat, s.1 = (i : Int) ∧ i ≤ ws.length ∧ s.2.length = i ∧ readC ws = (readC (ws.drop i)).map (s.2 ++ ·)) (fun s => ws.length - s.1.toNat) (fun r => r = outC ws) ?_ (0, []) ⟨0, rfl, Nat.zero_le _, rfl, by simp⟩
  rintro ⟨s, xs⟩ ⟨i, hs, hi, hx, hr⟩
  simp only at hs hx hr
  subst hs
  rcases Nat.lt_or_ge i ws.length with hlt | hge
  · rw [readC_drop hlt] at hr
    generalize hW : ws.getD i default = w at hr
    cases h16 : decide (w.length = 16) with
    | false =>
      have hd := len16 w false h16
      have hq : wordC w = none := by unfold wordC; rw [h16]
      rw [hq] at hr
      refine ⟨.inr (.inl ()), [], ?_, by unfold outC; rw [hr]; rfl⟩
      unfold spec_l01CRead_loop0_step
      simp only [DT.get, nat_dec hlt, nat_ge, Bool.and_self, Int.toNat_natCast, decide_eq_true hlt, hW, hd, Bool.not_false]
    | true =>
      have h16' := of_decide_eq_true h16
      have hd := len16 w true h16
      obtain ⟨⟨e1, e2⟩, l1, l2⟩ := halves h16'
      obtain ⟨n1, v1, v2⟩ := digits_spec (w.take 8) l1
      obtain ⟨n2, v3, v4⟩ := digits_spec (w.drop 8) l2
      have g8n : decide (0 ≤ 8) = true := rfl
      have g8i : decide ((0 : Int) ≤ 8) = true := rfl
      have g8 : decide ((8 : Int) ≤ ((List.length w : Nat) : Int)) = true := by
        rw [h16']; rfl
      rw [wordC_len h16'] at hr
      cases hp : wordP (w.take 8) with
      | none =>
        rw [hp] at hr v1
        refine ⟨.inr (.inl ()), [], ?_, by unfold outC; rw [hr]; rfl⟩
        unfold spec_l01CRead_loop0_step
        simp only [DT.get, nat_dec hlt, nat_ge, Bool.and_self, Int.toNat_natCast, decide_eq_true hlt, hW, Bool.not_true, hd, g8n, g8i, g8, e1, e2, n1, n2, v1, Option.isSome_none, Bool.not_false]
      | some x =>
        cases hp2 : wordP (w.drop 8) with
        | none =>
          rw [hp, hp2] at hr
          rw [hp] at v1
          rw [hp2] at v3
          refine ⟨.inr (.inl ()), [], ?_, by unfold outC; rw [hr]; rfl⟩
          unfold spec_l01CRead_loop0_step
          simp only [DT.get, nat_dec hlt, nat_ge, Bool.and_self, Int.toNat_natCast, decide_eq_true hlt, hW, Bool.not_true, hd, g8n, g8i, g8, e1, e2, n1, n2, v1, v3, Option.isSome_none, Option.isSome_some, Bool.not_false]
        | some y =>
          rw [hp, hp2] at hr
          have v2 := v2 x hp
          have v4 := v4 y hp2
          rw [hp] at v1
          rw [hp2] at v3
          refine ⟨.inl (((i + 1 : Nat) : Int), xs ++ [(x, y)]), [346, 1], ?_, ⟨i + 1, rfl, hlt, by simp [hx], by rw [hr]; exact map_appC⟩, ?_⟩
          · unfold spec_l01CRead_loop0_step
            have c : (decide ((List.length xs + List.length [(x, y)]) * 8 ≤ 140737488355328) && decide (List.length xs + List.length [(x, y)] ≤ 9223372036854775807)) = true := by
              rw [Bool.and_eq_true, decide_eq_true_eq, decide_eq_true_eq, List.length_singleton]; omega
            simp only [DT.get, nat_dec hlt, nat_ge, Bool.and_self, Int.toNat_natCast, decide_eq_true hlt, hW, Bool.not_true, hd, g8n, g8i, g8, e1, e2, n1, n2, v1, v2, v3, v4, Option.isSome_some, c, nat_next hlt (Nat.le_trans hl (by decide))]
          · show ws.length - ((i + 1 : Nat) : Int).toNat < ws.length - ((i : Nat) : Int).toNat
            rw [Int.toNat_natCast, Int.toNat_natCast]
            omega
  · have he : i = ws.length := Nat.le_antisymm hi hge
    refine ⟨.inr (.inr xs), [0], ?_, ?_⟩
    · unfold spec_l01CRead_loop0_step
      simp only [DT.get, he, nat_not]
    · unfold outC
      rw [hr, he, List.drop_length]
      simp [readC]

theorem comp_spec (a : List UInt8) (ha : a.length ≤ 2 ^ 30) : spec_l01CRead_need a = true ∧ spec_l01CRead a = outR a := by
  obtain ⟨s1, s2⟩ := C44.cut_eq a (by omega)
  have key : (spec_l01CRead_tree a).get = some (outR a) := by
    unfold spec_l01CRead_tree outR compR
    cases hq : (a == [110, 111, 110, 101]) with
    | true => simp only [DT.get]
    | false =>
      cases hm : decide ((C44.cuts a).length ≤ 256) with
      | false =>
        have d : decide (((List.length (C44.cuts a) : Nat) : Int) > 256) = true := by
          have := of_decide_eq_false hm
          exact decide_eq_true (by omega)
        simp only [DT.get, s1, s2, d]
      | true =>
        have d : decide (((List.length (C44.cuts a) : Nat) : Int) > 256) = false := by
          have := of_decide_eq_true hm
          exact decide_eq_false (by omega)
        obtain ⟨w1, w2⟩ := words_spec (C44.cuts a) (of_decide_eq_true hm)
        unfold outC at w2
        cases hr : readC (C44.cuts a) with
        | none =>
          rw [hr] at w2
          simp only at w2
          simp only [DT.get, s1, s2, d, w1, w2, isL]
        | some xs =>
          rw [hr] at w2
          simp only at w2
          simp only [DT.get, s1, s2, d, w1, w2, isL, rightD]
  exact DT.of_get key

/-! ## Ships -/

def okS (s : (Nat × Nat) × (Nat × Nat)) : Bool := (isNum .f32 s.1.1 && isNum .f32 s.1.2) && (isNum .f32 s.2.1 && isNum .f32 s.2.2)
def bareS : ((Nat × Nat) × (Nat × Nat)) × Bool := (((0, 0), (0, 0)), false)

theorem finC_impl (x : Nat × Nat) : impl_IsFiniteComplex_need x = true ∧ impl_IsFiniteComplex x = (isNum .f32 x.1 && isNum .f32 x.2) := by
  unfold impl_IsFiniteComplex_need impl_IsFiniteComplex impl_IsFiniteComplex_tree
  simp only [IsFinite_need, IsFinite_eq]
  cases isNum .f32 x.1 <;> constructor <;> rfl
theorem finC_spec (x : Nat × Nat) : spec_l01CFinite x = (isNum .f32 x.1 && isNum .f32 x.2) := by
  unfold spec_l01CFinite spec_l01CFinite_tree
  simp only [l01Finite_eq]
  cases isNum .f32 x.1 <;> rfl

theorem told_impl (s : (Nat × Nat) × (Nat × Nat)) : impl_toldShip_need s = true ∧ impl_toldShip s = bif okS s then (s, true) else bareS := by
  have hv : impl_ValidShip_need s = true ∧ impl_ValidShip s = okS s := by
    unfold impl_ValidShip_need impl_ValidShip impl_ValidShip_tree okS
    simp only [(finC_impl _).1, (finC_impl _).2]
    generalize (isNum .f32 s.1.1 && isNum .f32 s.1.2) = p
    cases p <;> constructor <;> rfl
  have key : (impl_toldShip_tree s).get = some (bif okS s then (s, true) else bareS) := by
    unfold impl_toldShip_tree
    have h1 : impl_ValidShip_need ((s.1.1, s.1.2), (s.2.1, s.2.2)) = true := hv.1
    have h2 : impl_ValidShip ((s.1.1, s.1.2), (s.2.1, s.2.2)) = okS s := hv.2
    cases hk : okS s with
    | false => rw [hk] at h2; simp only [DT.get, h1, h2, Bool.not_false, cond_false, bareS]
    | true => rw [hk] at h2; simp only [DT.get, h1, h2, Bool.not_true, cond_true]
  exact DT.of_get key

theorem give_spec (s : (Nat × Nat) × (Nat × Nat)) : spec_l04Give s = bif okS s then (s, true) else bareS := by
  have hv : spec_l04Is s = okS s := by
    unfold spec_l04Is spec_l04Is_tree okS
    simp only [finC_spec]
    generalize (isNum .f32 s.1.1 && isNum .f32 s.1.2) = p
    cases p <;> rfl
  have h2 : spec_l04Is ((s.1.1, s.1.2), (s.2.1, s.2.2)) = okS s := hv
  unfold spec_l04Give spec_l04Give_tree
  cases hk : okS s with
  | false => rw [hk] at h2; simp only [DT.val, h2, Bool.not_false, cond_false, bareS]
  | true => rw [hk] at h2; simp only [DT.val, h2, Bool.not_true, cond_true]

/-- The ship of a text. -/
def shipR (a : List UInt8) : ((Nat × Nat) × (Nat × Nat)) × Bool := match compR a with
  | some [x, y] => bif okS (x, y) then ((x, y), true) else bareS
  | _ => bareS

theorem two {l : List (Nat × Nat)} (h : l.length = 2) : ∃ x y, l = [x, y] := by
  match l, h with
  | [x, y], _ => exact ⟨x, y, rfl⟩

theorem shipR_other {a : List UInt8} {l : List (Nat × Nat)} (hr : compR a = some l) (hl : decide (l.length = 2) = false) : shipR a = bareS := by
  unfold shipR
  rw [hr]
  match l, hl with
  | [], _ => rfl
  | [_], _ => rfl
  | _ :: _ :: _ :: _, _ => rfl
  | [_, _], h => cases h

theorem ship_impl (a : List UInt8) (ha : a.length ≤ 2 ^ 30) : impl_ReadShip_need a = true ∧ impl_ReadShip a = shipR a := by
  obtain ⟨n1, n2⟩ := comp_impl a ha
  have key : (impl_ReadShip_tree a).get = some (shipR a) := by
    unfold impl_ReadShip_tree
    unfold outR at n2
    cases hr : compR a with
    | none =>
      rw [hr] at n2
      simp only at n2
      have : shipR a = bareS := by unfold shipR; rw [hr]
      simp only [DT.get, n1, n2, isL, this, bareS]
    | some l =>
      rw [hr] at n2
      simp only at n2
      cases hl : decide (l.length = 2) with
      | false =>
        have hne : (((List.length l : Nat) : Int) != 2) = true := by
          have := of_decide_eq_false hl
          rw [bne_iff_ne]; omega
        simp only [DT.get, n1, n2, isL, leftD, hne, shipR_other hr hl, bareS]
      | true =>
        obtain ⟨x, y, rfl⟩ := two (of_decide_eq_true hl)
        obtain ⟨v1, v2⟩ := told_impl (x, y)
        have v1 : impl_toldShip_need ((x.1, x.2), (y.1, y.2)) = true := v1
        have v2 : impl_toldShip ((x.1, x.2), (y.1, y.2)) = bif okS (x, y) then ((x, y), true) else bareS := v2
        have ho : shipR a = bif okS (x, y) then ((x, y), true) else bareS := by unfold shipR; rw [hr]
        have g0 : List.getD [x, y] 0 default = x := rfl
        have g1 : List.getD [x, y] 1 default = y := rfl
        have hln : List.length [x, y] = 2 := rfl
        have hne : (((2 : Nat) : Int) != 2) = false := rfl
        have c0 : (decide (0 ≤ 0) && decide (0 < ((2 : Nat) : Int))) = true := rfl
        simp only [DT.get, n1, n2, isL, leftD, hln, hne, g0, g1, v1, v2, ho]
        rfl
  exact DT.of_get key

theorem ship_spec (a : List UInt8) (ha : a.length ≤ 2 ^ 30) : spec_ReadShip_need a = true ∧ spec_ReadShip a = shipR a := by
  obtain ⟨n1, n2⟩ := comp_spec a ha
  have key : (spec_l08ReadShip_tree a).get = some (shipR a) := by
    unfold spec_l08ReadShip_tree
    unfold outR at n2
    cases hr : compR a with
    | none =>
      rw [hr] at n2
      simp only at n2
      have : shipR a = bareS := by unfold shipR; rw [hr]
      simp only [DT.get, n1, n2, isL, this, bareS]
    | some l =>
      rw [hr] at n2
      simp only at n2
      cases hl : decide (l.length = 2) with
      | false =>
        have hne : (((List.length l : Nat) : Int) != 2) = true := by
          have := of_decide_eq_false hl
          rw [bne_iff_ne]; omega
        simp only [DT.get, n1, n2, isL, leftD, hne, shipR_other hr hl, bareS]
      | true =>
        obtain ⟨x, y, rfl⟩ := two (of_decide_eq_true hl)
        have v2 : spec_l04Give ((x.1, x.2), (y.1, y.2)) = bif okS (x, y) then ((x, y), true) else bareS := give_spec (x, y)
        have ho : shipR a = bif okS (x, y) then ((x, y), true) else bareS := by unfold shipR; rw [hr]
        have g0 : List.getD [x, y] 0 default = x := rfl
        have g1 : List.getD [x, y] 1 default = y := rfl
        have hln : List.length [x, y] = 2 := rfl
        have hne : (((2 : Nat) : Int) != 2) = false := rfl
        simp only [DT.get, n1, n2, isL, leftD, hln, hne, g0, g1, v2, ho]
        rfl
  obtain ⟨k1, k2⟩ := DT.of_get key
  have k1 : spec_l08ReadShip_need a = true := k1
  have k2 : spec_l08ReadShip a = shipR a := k2
  have key2 : (spec_ReadShip_tree a).get = some (shipR a) := by
    unfold spec_ReadShip_tree
    simp only [DT.get, k1, k2]
  exact DT.of_get key2

theorem sameC_self (x : Nat × Nat) : laws_sameComplex x x = true := by
  unfold laws_sameComplex laws_sameComplex_tree
  simp only [DT.val, sameFloat_self]

theorem eqShip_self (s : (Nat × Nat) × (Nat × Nat)) : laws_eqShip_need s s = true ∧ laws_eqShip s s = true := by
  unfold laws_eqShip_need laws_eqShip laws_eqShip_tree
  simp only [DT.ok, DT.val, fconvOk_up, sameC_self, Bool.not_true]
  exact ⟨trivial, trivial⟩

theorem plain3 (a : List UInt8) : laws_FnExactReadShip_need a = true ∧ laws_FnExactReadShip a = true := by
  have key : (laws_FnExactReadShip_tree a).get = some true := by
    unfold laws_FnExactReadShip_tree
    cases hs : decide (((List.length a : Nat) : Int) > 1048576) with
    | true => simp only [DT.get, hs]
    | false =>
      have ha : a.length ≤ 2 ^ 30 := by
        have := of_decide_eq_false hs
        omega
      obtain ⟨p1, p2⟩ := ship_impl a ha
      obtain ⟨q1, q2⟩ := ship_spec a ha
      simp only [DT.get, hs, p1, p2, q1, q2, (eqShip_self _).1, (eqShip_self _).2, Bool.not_true, beq_self_eq_true]
  exact DT.of_get key

end Go.Proofs.YtacelaaifaffpaaDoor
