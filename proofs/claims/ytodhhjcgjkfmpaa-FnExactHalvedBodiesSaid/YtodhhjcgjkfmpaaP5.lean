/- Plain law, part 5: steps of bodies: the program's and the reference's. -/
import Derived.Test.YtodhhjcgjkfmpaaG2
import Derived.Test.YtodhhjcgjkfmpaaP3
import Derived.Test.YtodhhjcgjkfmpaaEngX
namespace Go.Proofs.Ytodhhjcgjkfmpaa
set_option linter.unusedVariables false
set_option linter.unusedSimpArgs false

theorem LessV (a b : Vec) : impl_LessVectors a b = spec_l01VLess a b := rfl
theorem AddV (a b : Vec) : impl_AddVectors a b = spec_l01VAdd a b := rfl
theorem ScaleV (a : Vec) (c : Nat) : impl_ScaleVector a c = spec_l01VScale a c := rfl
theorem InnerV (a b : Vec) : impl_InnerOf a b = spec_l01VInner a b := by
  unfold impl_InnerOf impl_InnerOf_tree spec_l01VInner spec_l01VInner_tree
  rfl
theorem softened_eq (a : Vec) (c : Nat) : impl_softened a c = fadd .f32 (spec_l01VInner a a) (fmul .f32 c c) := by
  unfold impl_softened impl_softened_tree
  simp only [DT.val, InnerV]

/-! ## Pulls -/

theorem pull_same (l : List Body) (hl : l.length ≤ 2 ^ 40) (i : Int) (v : Vec) (c : Nat) : impl_pull_need l i v c = true ∧ spec_l02Pull_need l i v c = true ∧ impl_pull l i v c = spec_l02Pull l i v c := by
  obtain ⟨e1, e2⟩ := loop_alike (step := impl_pull_loop0_step (i, c, l, ((l.length : Nat) : Int), v.X, v.Y, v.Z, 0, 0, 0)) (step' := spec_l02Pull_loop0_step (l, i, c, v.X, v.Y, v.Z, 0, 0, 0)) (fun s => by
    have hne : (s.1 != i) = !(s.1 == i) := rfl
    unfold impl_pull_loop0_step spec_l02Pull_loop0_step
    simp only [LessV, AddV, ScaleV, softened_eq, (root_same _).1, (root_same _).2.1, (root_same _).2.2, hne, DT.get]
    cases h1 : decide (s.1 < ((l.length : Nat) : Int)) with
    | false => rfl
    | true =>
      cases h2 : decide (0 ≤ s.1) with
      | false => rfl
      | true =>
        cases h3 : (s.1 == i) with
        | true => rfl
        | false =>
          simp only [Bool.and_self, Bool.not_false]
          cases fgt .f32 (fadd .f32 (spec_l01VInner (spec_l01VLess (l.getD s.1.toNat default).At v) (spec_l01VLess (l.getD s.1.toNat default).At v)) (fmul .f32 c c)) 0 <;> rfl)
  have hp := loop_post (step := spec_l02Pull_loop0_step (l, i, c, v.X, v.Y, v.Z, 0, 0, 0)) (fun s => ∃ j : Nat, s.1 = (j : Int) ∧ j ≤ l.length) (fun s => l.length - s.1.toNat) (fun _ => True) (by
    rintro ⟨a, x, y, z⟩ ⟨j, hj, hjl⟩
    simp only at hj
    subst hj
    rcases Nat.lt_or_ge j l.length with hlt | hge
    · have hm : l.length - ((j + 1 : Nat) : Int).toNat < l.length - ((j : Nat) : Int).toNat := by
        rw [Int.toNat_natCast, Int.toNat_natCast]
        omega
      have hw := nat_next hlt (by omega)
      cases h3 : (((j : Nat) : Int) == i) with
      | true =>
        refine ⟨.inl (((j + 1 : Nat) : Int), x, y, z), [0, 1, 2], ?_, ⟨j + 1, rfl, hlt⟩, hm⟩
        unfold spec_l02Pull_loop0_step
        simp only [DT.get, nat_dec hlt, nat_ge, Bool.and_self, h3, hw]
      | false =>
        cases h4 : fgt .f32 (fadd .f32 (spec_l01VInner (spec_l01VLess (l.getD j default).At v) (spec_l01VLess (l.getD j default).At v)) (fmul .f32 c c)) 0 with
        | false =>
          refine ⟨.inl (((j + 1 : Nat) : Int), x, y, z), [0, 1, 2], ?_, ⟨j + 1, rfl, hlt⟩, hm⟩
          unfold spec_l02Pull_loop0_step
          simp only [DT.get, nat_dec hlt, nat_ge, Bool.and_self, h3, hw, Int.toNat_natCast, h4, Bool.not_false]
        | true =>
          have hg : ∃ u : Vec, (spec_l02Pull_loop0_step (l, i, c, v.X, v.Y, v.Z, 0, 0, 0) (((j : Nat) : Int), x, y, z)).get = some (.inl (((j + 1 : Nat) : Int), u.X, u.Y, u.Z), [0, 1, 2]) := by
            refine ⟨spec_l01VAdd ⟨x, y, z⟩ (spec_l01VScale (spec_l01VLess (l.getD j default).At v) (fdiv .f32 (l.getD j default).Mass (fmul .f32 (fadd .f32 (spec_l01VInner (spec_l01VLess (l.getD j default).At v) (spec_l01VLess (l.getD j default).At v)) (fmul .f32 c c)) (spec_l01Sqrt (fadd .f32 (spec_l01VInner (spec_l01VLess (l.getD j default).At v) (spec_l01VLess (l.getD j default).At v)) (fmul .f32 c c)))))), ?_⟩
            unfold spec_l02Pull_loop0_step
            simp only [DT.get, nat_dec hlt, nat_ge, Bool.and_self, h3, hw, Int.toNat_natCast, h4, Bool.not_true, (root_same _).2.1]
          obtain ⟨u, hg⟩ := hg
          exact ⟨_, _, hg, ⟨j + 1, rfl, hlt⟩, hm⟩
    · have he : j = l.length := Nat.le_antisymm hjl hge
      refine ⟨.inr (x, y, z), [1, 2], ?_, trivial⟩
      unfold spec_l02Pull_loop0_step
      simp only [DT.get, he, nat_not]) (0, 0, 0, 0) ⟨0, rfl, Nat.zero_le _⟩
  have hs : spec_l02Pull_loop0_ends (l, i, c, v.X, v.Y, v.Z, 0, 0, 0) (0, 0, 0, 0) = true := hp.1
  have hi : impl_pull_loop0_ends (i, c, l, ((l.length : Nat) : Int), v.X, v.Y, v.Z, 0, 0, 0) (0, 0, 0, 0) = true := (e2 _).trans hs
  have hv : impl_pull_loop0 (i, c, l, ((l.length : Nat) : Int), v.X, v.Y, v.Z, 0, 0, 0) (0, 0, 0, 0) = spec_l02Pull_loop0 (l, i, c, v.X, v.Y, v.Z, 0, 0, 0) (0, 0, 0, 0) := e1 _
  unfold impl_pull_need spec_l02Pull_need impl_pull spec_l02Pull impl_pull_tree spec_l02Pull_tree
  simp only [DT.ok, DT.val, hs, hi, hv]
  exact ⟨trivial, trivial, trivial⟩

theorem pulls_same (l : List Body) (hl : l.length ≤ 2 ^ 40) (c : Nat) : impl_pulls_need l c = true ∧ spec_l02Pulls_need l c = true ∧ impl_pulls l c = spec_l02Pulls l c ∧ ∀ f, spec_l02Pulls l c = .inr f → f.length = l.length := by
  obtain ⟨e1, e2⟩ := loop_alike (step := impl_pulls_loop0_step (l, c, l, ((l.length : Nat) : Int))) (step' := spec_l02Pulls_loop0_step (l, c)) (fun s => by
    unfold impl_pulls_loop0_step spec_l02Pulls_loop0_step
    simp only [(pull_same l hl _ _ _).1, (pull_same l hl _ _ _).2.1, (pull_same l hl _ _ _).2.2, (isFiniteVector_eq _).1, (isFiniteVector_eq _).2, l01VFinite_eq, DT.get])
  have hp := loop_post (step := spec_l02Pulls_loop0_step (l, c)) (fun s => ∃ j : Nat, s.1 = (j : Int) ∧ j ≤ l.length ∧ s.2.length = j) (fun s => l.length - s.1.toNat) (fun r => ∀ f, r = .inr f → f.length = l.length) (by
    rintro ⟨a, o⟩ ⟨j, hj, hjl, ho⟩
    simp only at hj ho
    subst hj
    rcases Nat.lt_or_ge j l.length with hlt | hge
    · have hm : l.length - ((j + 1 : Nat) : Int).toNat < l.length - ((j : Nat) : Int).toNat := by
        rw [Int.toNat_natCast, Int.toNat_natCast]
        omega
      have hw := nat_next hlt (by omega)
      have hb1 : decide ((List.length o + 1) * 12 ≤ 140737488355328) = true := decide_eq_true (by omega)
      have hb2 : decide (List.length o + 1 ≤ 9223372036854775807) = true := decide_eq_true (by omega)
      cases h3 : finV (spec_l02Pull l ((j : Nat) : Int) (l.getD j default).At c) with
      | false =>
        refine ⟨.inr (.inl ()), [], ?_, fun f hf => by cases hf⟩
        unfold spec_l02Pulls_loop0_step
        simp only [DT.get, nat_dec hlt, nat_ge, Bool.and_self, (pull_same l hl _ _ _).2.1, l01VFinite_eq, Int.toNat_natCast, h3, Bool.not_false]
      | true =>
        refine ⟨.inl (((j + 1 : Nat) : Int), o ++ [spec_l02Pull l ((j : Nat) : Int) (l.getD j default).At c]), [169], ?_, ⟨j + 1, rfl, hlt, by rw [List.length_append, ho]; rfl⟩, hm⟩
        unfold spec_l02Pulls_loop0_step
        simp only [DT.get, nat_dec hlt, nat_ge, Bool.and_self, (pull_same l hl _ _ _).2.1, l01VFinite_eq, Int.toNat_natCast, h3, Bool.not_true, List.length_singleton, hb1, hb2, hw]
    · have he : j = l.length := Nat.le_antisymm hjl hge
      refine ⟨.inr (.inr o), [0], ?_, fun f hf => by cases hf; omega⟩
      unfold spec_l02Pulls_loop0_step
      simp only [DT.get, he, nat_not]) (0, []) ⟨0, rfl, Nat.zero_le _, rfl⟩
  have hs : spec_l02Pulls_loop0_ends (l, c) (0, []) = true := hp.1
  have hi : impl_pulls_loop0_ends (l, c, l, ((l.length : Nat) : Int)) (0, []) = true := (e2 _).trans hs
  have hv : impl_pulls_loop0 (l, c, l, ((l.length : Nat) : Int)) (0, []) = spec_l02Pulls_loop0 (l, c) (0, []) := e1 _
  have hr : ∀ f, spec_l02Pulls_loop0 (l, c) (0, []) = .inr f → f.length = l.length := hp.2
  unfold impl_pulls_need spec_l02Pulls_need impl_pulls spec_l02Pulls impl_pulls_tree spec_l02Pulls_tree
  simp only [DT.ok, DT.val, hs, hi, hv]
  cases hq : spec_l02Pulls_loop0 (l, c) (0, []) with
  | inl u =>
    simp only [isL]
    exact ⟨trivial, trivial, trivial, fun f hf => by cases hf⟩
  | inr f =>
    simp only [isL, rightD]
    exact ⟨trivial, trivial, trivial, fun g hg => by cases hg; exact hr f hq⟩

/-! ## Pushes -/

def kicked (b : Body) (f : Vec) (h : Nat) : Body := ⟨b.At, spec_l01VAdd b.Speed (spec_l01VScale f h), b.Mass⟩
def kickL (l : List Body) (f : List Vec) (h : Nat) : List Body := (List.range l.length).map fun j => kicked (l.getD j default) (f.getD j default) h
def moved (b : Body) (t : Nat) : Body := ⟨spec_l01VAdd b.At (spec_l01VScale b.Speed t), b.Speed, b.Mass⟩
def moveL (l : List Body) (t : Nat) : List Body := (List.range l.length).map fun j => moved (l.getD j default) t

theorem kickL_len (l : List Body) (f : List Vec) (h : Nat) : (kickL l f h).length = l.length := by unfold kickL; simp
theorem moveL_len (l : List Body) (t : Nat) : (moveL l t).length = l.length := by unfold moveL; simp

theorem push_loop (l : List Body) (f : List Vec) (h : Nat) (hl : l.length ≤ 2 ^ 40) (hf : f.length = l.length) : impl_pushed_loop0_ends (h, l, ((l.length : Nat) : Int), f) (0, []) = true ∧ impl_pushed_loop0 (h, l, ((l.length : Nat) : Int), f) (0, []) = kickL l f h := by
  obtain ⟨h1, h2⟩ := loop_post (step := impl_pushed_loop0_step (h, l, ((l.length : Nat) : Int), f)) (fun s => ∃ j : Nat, s.1 = (j : Int) ∧ j ≤ l.length ∧ s.2.length = j ∧ ∀ q, q < j → s.2.getD q default = kicked (l.getD q default) (f.getD q default) h) (fun s => l.length - s.1.toNat) (fun r => r = kickL l f h) (by
    rintro ⟨a, o⟩ ⟨j, hj, hjl, ho, hq⟩
    simp only at hj ho hq
    subst hj
    rcases Nat.lt_or_ge j l.length with hlt | hge
    · have hm : l.length - ((j + 1 : Nat) : Int).toNat < l.length - ((j : Nat) : Int).toNat := by
        rw [Int.toNat_natCast, Int.toNat_natCast]
        omega
      have hw := nat_next hlt (by omega)
      have hlf : j < f.length := by omega
      have hb1 : decide ((List.length o + 1) * 28 ≤ 140737488355328) = true := decide_eq_true (by omega)
      have hb2 : decide (List.length o + 1 ≤ 9223372036854775807) = true := decide_eq_true (by omega)
      refine ⟨.inl (((j + 1 : Nat) : Int), o ++ [kicked (l.getD j default) (f.getD j default) h]), [0, 186], ?_, ⟨j + 1, rfl, hlt, by rw [List.length_append, ho]; rfl, fun q hq' => ?_⟩, hm⟩
      · unfold impl_pushed_loop0_step
        simp only [DT.get, nat_dec hlt, nat_dec hlf, nat_ge, Bool.and_self, Int.toNat_natCast, decide_eq_true hlf, List.length_singleton, hb1, hb2, hw, ScaleV, AddV]
        rfl
      · rcases Nat.lt_or_ge q j with g | g
        · rw [List.getD_eq_getElem?_getD, List.getElem?_append_left (by omega), ← List.getD_eq_getElem?_getD]
          exact hq q g
        · have : q = j := by omega
          subst this
          rw [List.getD_eq_getElem?_getD, List.getElem?_append_right (by omega)]
          simp [ho]
    · have he : j = l.length := Nat.le_antisymm hjl hge
      refine ⟨.inr o, [1], ?_, ?_⟩
      · unfold impl_pushed_loop0_step
        simp only [DT.get, he, nat_not]
      · exact eq_of_getD (by omega) (fun q hq' => hq q (by omega))) (0, []) ⟨0, rfl, Nat.zero_le _, rfl, fun q hq => absurd hq (Nat.not_lt_zero q)⟩
  exact ⟨h1, h2⟩

theorem kick_loop (l : List Body) (f : List Vec) (h : Nat) (hl : l.length ≤ 2 ^ 40) (hf : f.length = l.length) : spec_l02Kick_loop0_ends (h, f) (0, l) = true ∧ spec_l02Kick_loop0 (h, f) (0, l) = kickL l f h := by
  obtain ⟨h1, h2⟩ := loop_post (step := spec_l02Kick_loop0_step (h, f)) (fun s => ∃ j : Nat, s.1 = (j : Int) ∧ j ≤ l.length ∧ s.2.length = l.length ∧ (∀ q, q < j → s.2.getD q default = kicked (l.getD q default) (f.getD q default) h) ∧ ∀ q, j ≤ q → s.2.getD q default = l.getD q default) (fun s => l.length - s.1.toNat) (fun r => r = kickL l f h) (by
    rintro ⟨a, o⟩ ⟨j, hj, hjl, ho, hq, hr⟩
    simp only at hj ho hq hr
    subst hj
    rcases Nat.lt_or_ge j l.length with hlt | hge
    · have hm : l.length - ((j + 1 : Nat) : Int).toNat < l.length - ((j : Nat) : Int).toNat := by
        rw [Int.toNat_natCast, Int.toNat_natCast]
        omega
      have hw := nat_next hlt (by omega)
      have hlf : j < f.length := by omega
      have hlo : j < o.length := by omega
      have hrj := hr j (Nat.le_refl _)
      refine ⟨.inl (((j + 1 : Nat) : Int), List.set o j (kicked (l.getD j default) (f.getD j default) h)), [0, 1], ?_, ⟨j + 1, rfl, hlt, by rw [List.length_set, ho], fun q hq' => ?_, fun q hq' => ?_⟩, hm⟩
      · unfold spec_l02Kick_loop0_step
        simp only [DT.get, nat_dec hlo, nat_dec hlf, nat_ge, Bool.and_self, Int.toNat_natCast, decide_eq_true hlf, decide_eq_true hlo, hw, hrj]
        rfl
      · rcases Nat.lt_or_ge q j with g | g
        · rw [getD_set_ne (by omega)]
          exact hq q g
        · rw [show q = j from by omega, getD_set hlo]
      · rw [getD_set_ne (by omega)]
        exact hr q (by omega)
    · have he : j = l.length := Nat.le_antisymm hjl hge
      refine ⟨.inr o, [1], ?_, ?_⟩
      · unfold spec_l02Kick_loop0_step
        simp only [DT.get, he, ho, nat_not]
      · exact eq_of_getD ho (fun q hq' => hq q (by omega))) (0, l) ⟨0, rfl, Nat.zero_le _, rfl, fun q hq => absurd hq (Nat.not_lt_zero q), fun q _ => rfl⟩
  exact ⟨h1, h2⟩

theorem move_loops (l : List Body) (c t h : Nat) (hl : l.length ≤ 2 ^ 40) : (impl_StepBodies_loop0_ends (c, t, h, ((l.length : Nat) : Int)) (0, l) = true ∧ impl_StepBodies_loop0 (c, t, h, ((l.length : Nat) : Int)) (0, l) = moveL l t) ∧ (spec_l02Step_loop0_ends (c, t, h) (0, l) = true ∧ spec_l02Step_loop0 (c, t, h) (0, l) = moveL l t) := by
  refine ⟨?_, ?_⟩
  · obtain ⟨h1, h2⟩ := loop_post (step := impl_StepBodies_loop0_step (c, t, h, ((l.length : Nat) : Int))) (fun s => ∃ j : Nat, s.1 = (j : Int) ∧ j ≤ l.length ∧ s.2.length = l.length ∧ (∀ q, q < j → s.2.getD q default = moved (l.getD q default) t) ∧ ∀ q, j ≤ q → s.2.getD q default = l.getD q default) (fun s => l.length - s.1.toNat) (fun r => r = moveL l t) (by
      rintro ⟨a, o⟩ ⟨j, hj, hjl, ho, hq, hr⟩
      simp only at hj ho hq hr
      subst hj
      rcases Nat.lt_or_ge j l.length with hlt | hge
      · have hm : l.length - ((j + 1 : Nat) : Int).toNat < l.length - ((j : Nat) : Int).toNat := by
          rw [Int.toNat_natCast, Int.toNat_natCast]
          omega
        have hw := nat_next hlt (by omega)
        have hlo : j < o.length := by omega
        have hrj := hr j (Nat.le_refl _)
        refine ⟨.inl (((j + 1 : Nat) : Int), List.set o j (moved (l.getD j default) t)), [0], ?_, ⟨j + 1, rfl, hlt, by rw [List.length_set, ho], fun q hq' => ?_, fun q hq' => ?_⟩, hm⟩
        · unfold impl_StepBodies_loop0_step
          simp only [DT.get, nat_dec hlt, nat_dec hlo, nat_ge, Bool.and_self, Int.toNat_natCast, decide_eq_true hlo, hw, hrj, ScaleV, AddV]
          rfl
        · rcases Nat.lt_or_ge q j with g | g
          · rw [getD_set_ne (by omega)]
            exact hq q g
          · rw [show q = j from by omega, getD_set hlo]
        · rw [getD_set_ne (by omega)]
          exact hr q (by omega)
      · have he : j = l.length := Nat.le_antisymm hjl hge
        refine ⟨.inr o, [0], ?_, ?_⟩
        · unfold impl_StepBodies_loop0_step
          simp only [DT.get, he, nat_not]
        · exact eq_of_getD ho (fun q hq' => hq q (by omega))) (0, l) ⟨0, rfl, Nat.zero_le _, rfl, fun q hq => absurd hq (Nat.not_lt_zero q), fun q _ => rfl⟩
    exact ⟨h1, h2⟩
  · obtain ⟨h1, h2⟩ := loop_post (step := spec_l02Step_loop0_step (c, t, h)) (fun s => ∃ j : Nat, s.1 = (j : Int) ∧ j ≤ l.length ∧ s.2.length = l.length ∧ (∀ q, q < j → s.2.getD q default = moved (l.getD q default) t) ∧ ∀ q, j ≤ q → s.2.getD q default = l.getD q default) (fun s => l.length - s.1.toNat) (fun r => r = moveL l t) (by
      rintro ⟨a, o⟩ ⟨j, hj, hjl, ho, hq, hr⟩
      simp only at hj ho hq hr
      subst hj
      rcases Nat.lt_or_ge j l.length with hlt | hge
      · have hm : l.length - ((j + 1 : Nat) : Int).toNat < l.length - ((j : Nat) : Int).toNat := by
          rw [Int.toNat_natCast, Int.toNat_natCast]
          omega
        have hw := nat_next hlt (by omega)
        have hlo : j < o.length := by omega
        have hrj := hr j (Nat.le_refl _)
        refine ⟨.inl (((j + 1 : Nat) : Int), List.set o j (moved (l.getD j default) t)), [0], ?_, ⟨j + 1, rfl, hlt, by rw [List.length_set, ho], fun q hq' => ?_, fun q hq' => ?_⟩, hm⟩
        · unfold spec_l02Step_loop0_step
          simp only [DT.get, nat_dec hlo, nat_ge, Bool.and_self, Int.toNat_natCast, decide_eq_true hlo, hw, hrj]
          rfl
        · rcases Nat.lt_or_ge q j with g | g
          · rw [getD_set_ne (by omega)]
            exact hq q g
          · rw [show q = j from by omega, getD_set hlo]
        · rw [getD_set_ne (by omega)]
          exact hr q (by omega)
      · have he : j = l.length := Nat.le_antisymm hjl hge
        refine ⟨.inr o, [0], ?_, ?_⟩
        · unfold spec_l02Step_loop0_step
          simp only [DT.get, he, ho, nat_not]
        · exact eq_of_getD ho (fun q hq' => hq q (by omega))) (0, l) ⟨0, rfl, Nat.zero_le _, rfl, fun q hq => absurd hq (Nat.not_lt_zero q), fun q _ => rfl⟩
    exact ⟨h1, h2⟩

/-! ## Steps -/

/-- A step, in plain words. -/
noncomputable def stepP (l : List Body) (c t : Nat) : Unit ⊕ List Body := match spec_l02Pulls l c with
  | .inl _ => .inl ()
  | .inr f =>
    let m := moveL (kickL l f (fmul .f32 1056964608 t)) t
    match okL m with
    | false => .inl ()
    | true => match spec_l02Pulls m c with
      | .inl _ => .inl ()
      | .inr g => match okL (kickL m g (fmul .f32 1056964608 t)) with
        | false => .inl ()
        | true => .inr (kickL m g (fmul .f32 1056964608 t))

theorem okL_len {l : List Body} (h : okL l = true) : l.length ≤ 16 := by
  unfold okL at h
  rw [Bool.and_eq_true, decide_eq_true_eq] at h
  omega

theorem okL_get {l : List Body} (h : okL l = true) {j : Nat} (hj : j < l.length) : okB (l.getD j default) = true := by
  unfold okL at h
  rw [Bool.and_eq_true] at h
  have := List.all_eq_true.1 h.2
  rw [List.getD_eq_getElem?_getD, List.getElem?_eq_getElem hj, Option.getD_some]
  exact this _ (List.getElem_mem hj)

theorem okL_of {l : List Body} (h16 : l.length ≤ 16) (h : ∀ j, j < l.length → okB (l.getD j default) = true) : okL l = true := by
  unfold okL
  rw [Bool.and_eq_true, decide_eq_true_eq, List.all_eq_true]
  refine ⟨by omega, fun b hb => ?_⟩
  obtain ⟨j, hj, rfl⟩ := List.mem_iff_getElem.1 hb
  have := h j hj
  rwa [List.getD_eq_getElem?_getD, List.getElem?_eq_getElem hj, Option.getD_some] at this

/-- What is moved to bodies was bodies. -/
theorem ok_back {l : List Body} {f : List Vec} {h t : Nat} (hl : okL l = true) (hm : okL (moveL (kickL l f h) t) = true) : okL (kickL l f h) = true := by
  have h16 := okL_len hl
  refine okL_of (by rw [kickL_len]; exact h16) fun j hj => ?_
  rw [kickL_len] at hj
  have h1 := okL_get hl hj
  have h2 := okL_get hm (j := j) (by rw [moveL_len, kickL_len]; exact hj)
  unfold moveL at h2
  rw [getD_range (by rw [kickL_len]; exact hj)] at h2
  have e : (kickL l f h).getD j default = kicked (l.getD j default) (f.getD j default) h := by
    unfold kickL
    exact getD_range hj
  rw [e] at h2 ⊢
  unfold okB at h1 h2 ⊢
  unfold moved kicked at h2
  unfold kicked
  simp only [Bool.and_eq_true] at h1 h2 ⊢
  exact ⟨⟨h1.1.1, h2.1.2⟩, h2.2⟩

theorem own_same (l : List Body) (hl : l.length ≤ 2 ^ 40) : spec_l02Own_need l = true ∧ spec_l02Own l = l := by
  have hb1 : decide ((0 + List.length l) * 28 ≤ 140737488355328) = true := decide_eq_true (by omega)
  have hb2 : decide (0 + List.length l ≤ 9223372036854775807) = true := decide_eq_true (by omega)
  unfold spec_l02Own_need spec_l02Own spec_l02Own_tree
  simp only [DT.ok, DT.val, List.length_nil, hb1, hb2, Bool.and_self, List.nil_append]
  exact ⟨trivial, trivial⟩

theorem kick_eq (l : List Body) (c h : Nat) (hl : l.length ≤ 2 ^ 40) : spec_l02Kick_need l c h = true ∧ spec_l02Kick l c h = match spec_l02Pulls l c with
    | .inl _ => .inl ()
    | .inr f => bif okL (kickL l f h) then .inr (kickL l f h) else .inl () := by
  obtain ⟨p1, p2, p3, p4⟩ := pulls_same l hl c
  obtain ⟨o1, o2⟩ := own_same l hl
  unfold spec_l02Kick_need spec_l02Kick spec_l02Kick_tree
  cases hp : spec_l02Pulls l c with
  | inl u =>
    simp only [DT.ok, DT.val, p2, hp, isL]
    exact ⟨trivial, trivial⟩
  | inr f =>
    have hf := p4 f hp
    obtain ⟨k1, k2⟩ := kick_loop l f h hl hf
    obtain ⟨g1, g2, g3, g4⟩ := give_same (kickL l f h) (by rw [kickL_len]; omega)
    simp only [DT.ok, DT.val, p2, hp, isL, rightD, o1, o2, k1, k2, g2, g4]
    cases okL (kickL l f h) <;> simp only [cond_true, cond_false, isL] <;> exact ⟨trivial, trivial⟩

theorem step_spec (l : List Body) (c t : Nat) (hl : okL l = true) : spec_l02Step_need l c t = true ∧ spec_l02Step l c t = stepP l c t := by
  have h16 := okL_len hl
  obtain ⟨k1, k2⟩ := kick_eq l c (fmul .f32 1056964608 t) (by omega)
  unfold spec_l02Step_need spec_l02Step spec_l02Step_tree stepP
  cases hp : spec_l02Pulls l c with
  | inl u =>
    rw [hp] at k2
    simp only [DT.ok, DT.val, k1, k2, isL]
    exact ⟨trivial, trivial⟩
  | inr f =>
    rw [hp] at k2
    simp only at k2
    have hkl : (kickL l f (fmul .f32 1056964608 t)).length ≤ 2 ^ 40 := by rw [kickL_len]; omega
    obtain ⟨_, m1, m2⟩ := move_loops (kickL l f (fmul .f32 1056964608 t)) c t (fmul .f32 1056964608 t) hkl
    have hml : (moveL (kickL l f (fmul .f32 1056964608 t)) t).length ≤ 2 ^ 40 := by rw [moveL_len]; exact hkl
    obtain ⟨a1, a2⟩ := l02Are_eq (moveL (kickL l f (fmul .f32 1056964608 t)) t) (by omega)
    obtain ⟨q1, q2⟩ := kick_eq (moveL (kickL l f (fmul .f32 1056964608 t)) t) c (fmul .f32 1056964608 t) hml
    cases hk : okL (kickL l f (fmul .f32 1056964608 t)) with
    | false =>
      have hm : okL (moveL (kickL l f (fmul .f32 1056964608 t)) t) = false := by
        cases hm : okL (moveL (kickL l f (fmul .f32 1056964608 t)) t) with
        | false => rfl
        | true => rw [ok_back hl hm] at hk; cases hk
      rw [hk, cond_false] at k2
      simp only [DT.ok, DT.val, k1, k2, isL, hm]
      exact ⟨trivial, trivial⟩
    | true =>
      rw [hk, cond_true] at k2
      simp only [DT.ok, DT.val, k1, k2, isL, rightD, m1, m2, a1, a2]
      cases hm : okL (moveL (kickL l f (fmul .f32 1056964608 t)) t) with
      | false => exact ⟨rfl, rfl⟩
      | true =>
        simp only [Bool.not_true, q1, q2]
        cases hg : spec_l02Pulls (moveL (kickL l f (fmul .f32 1056964608 t)) t) c with
        | inl u =>
          simp only [isL]
          exact ⟨trivial, trivial⟩
        | inr g =>
          simp only
          cases okL (kickL (moveL (kickL l f (fmul .f32 1056964608 t)) t) g (fmul .f32 1056964608 t)) <;> simp only [cond_true, cond_false, isL, rightD] <;> exact ⟨trivial, trivial⟩

theorem stepP_ok {l r : List Body} {c t : Nat} (h : stepP l c t = .inr r) : okL r = true := by
  unfold stepP at h
  split at h
  · cases h
  · simp only at h
    split at h
    · cases h
    · split at h
      · cases h
      · split at h
        · cases h
        · rename_i hk
          cases h
          exact hk

theorem PullsOf_eq (l : List Body) (c : Nat) (hl : l.length ≤ 2 ^ 40) : impl_PullsOf_need l c = true ∧ impl_PullsOf l c = match okL l && spec_l02Least c with
    | false => .inl ()
    | true => spec_l02Pulls l c := by
  obtain ⟨a1, a2⟩ := AreBodies_eq l (by omega)
  obtain ⟨p1, p2, p3, p4⟩ := pulls_same l hl c
  have hc : impl_isCore_need c = true ∧ impl_isCore c = spec_l02Least c := aMass_same c
  unfold impl_PullsOf_need impl_PullsOf impl_PullsOf_tree
  cases h1 : okL l with
  | false =>
    simp only [DT.ok, DT.val, a1, a2, h1, Bool.not_false, Bool.false_and]
    exact ⟨trivial, trivial⟩
  | true =>
    cases h2 : spec_l02Least c with
    | false =>
      simp only [DT.ok, DT.val, a1, a2, h1, Bool.not_true, hc.1, hc.2, h2, Bool.not_false, Bool.and_false]
      exact ⟨trivial, trivial⟩
    | true =>
      simp only [DT.ok, DT.val, a1, a2, h1, Bool.not_true, hc.1, hc.2, h2, p1, p3, Bool.and_self]
      cases spec_l02Pulls l c <;> simp only [isL, rightD] <;> exact ⟨trivial, trivial⟩

/-- Bodies that are pushed: nothing, or those. -/
theorem pushed_eq (l : List Body) (c h : Nat) (hl : l.length ≤ 2 ^ 40) : impl_pushed_need l c h = true ∧ match okL l && spec_l02Least c with
    | false => impl_pushed l c h = .inl () ∨ impl_pushed l c h = .inr ([], false)
    | true => match spec_l02Pulls l c with
      | .inl _ => impl_pushed l c h = .inl () ∨ impl_pushed l c h = .inr ([], false)
      | .inr f => impl_pushed l c h = .inr (kickL l f h, true) := by
  obtain ⟨u1, u2⟩ := PullsOf_eq l c hl
  obtain ⟨p1, p2, p3, p4⟩ := pulls_same l hl c
  have nope : impl_PullsOf l c = .inl () → impl_pushed_need l c h = true ∧ (impl_pushed l c h = .inl () ∨ impl_pushed l c h = .inr ([], false)) := fun hn => by
    unfold impl_pushed_need impl_pushed impl_pushed_tree
    by_cases hpos : 0 < l.length
    · have d1 : decide ((0 : Int) < ((l.length : Nat) : Int)) = true := decide_eq_true (by omega)
      have d2 : decide ((0 : Int) ≤ 0) = true := rfl
      have d3 : decide ((0 : Nat) ≤ 0) = true := rfl
      simp only [DT.ok, DT.val, u1, hn, isL, d1, d2, d3, Bool.and_self]
      exact ⟨trivial, .inl trivial⟩
    · have d1 : decide ((0 : Int) < ((l.length : Nat) : Int)) = false := decide_eq_false (by omega)
      simp only [DT.ok, DT.val, u1, hn, isL, d1]
      exact ⟨trivial, .inr trivial⟩
  cases hc : okL l && spec_l02Least c with
  | false =>
    rw [hc] at u2
    exact nope u2
  | true =>
    rw [hc] at u2
    simp only at u2
    cases hp : spec_l02Pulls l c with
    | inl u => exact nope (u2.trans hp)
    | inr f =>
      obtain ⟨k1, k2⟩ := push_loop l f h hl (p4 f hp)
      rw [hp] at u2
      unfold impl_pushed_need impl_pushed impl_pushed_tree
      simp only [DT.ok, DT.val, u1, u2, isL, rightD, k1, k2]
      exact ⟨trivial, trivial⟩

theorem pushed_len (l : List Body) (c h : Nat) : True := trivial

/-- A step of the program. -/
theorem step_impl (l : List Body) (c t : Nat) (hl : l.length ≤ 2 ^ 40) : impl_StepBodies_need l c t = true ∧ impl_StepBodies l c t = match isNum .f32 t && (okL l && spec_l02Least c) with
    | false => .inl ()
    | true => stepP l c t := by
  cases ht : isNum .f32 t with
  | false =>
    unfold impl_StepBodies_need impl_StepBodies impl_StepBodies_tree
    simp only [DT.ok, DT.val, IsFinite_need, IsFinite_eq, ht, Bool.not_false, Bool.false_and]
    exact ⟨trivial, trivial⟩
  | true =>
    obtain ⟨u1, u2⟩ := pushed_eq l c (fdiv .f32 t 1073741824) hl
    have half := half_same t
    have bad : (impl_pushed l c (fdiv .f32 t 1073741824) = .inl () ∨ impl_pushed l c (fdiv .f32 t 1073741824) = .inr ([], false)) → impl_StepBodies_need l c t = true ∧ impl_StepBodies l c t = .inl () := fun hb => by
      unfold impl_StepBodies_need impl_StepBodies impl_StepBodies_tree
      rcases hb with hb | hb
      · simp only [DT.ok, DT.val, IsFinite_need, IsFinite_eq, ht, Bool.not_true, u1, hb, isL]
        exact ⟨trivial, trivial⟩
      · simp only [DT.ok, DT.val, IsFinite_need, IsFinite_eq, ht, Bool.not_true, u1, hb, isL, rightD, Bool.not_false]
        exact ⟨trivial, trivial⟩
    cases hc : okL l && spec_l02Least c with
    | false =>
      rw [hc] at u2
      exact bad u2
    | true =>
      rw [hc] at u2
      simp only at u2
      rw [Bool.and_eq_true] at hc
      unfold stepP
      cases hp : spec_l02Pulls l c with
      | inl u =>
        rw [hp] at u2
        exact bad u2
      | inr f =>
        rw [hp] at u2
        simp only at u2
        rw [half] at u1 u2
        have hkl : (kickL l f (fmul .f32 1056964608 t)).length ≤ 2 ^ 40 := by rw [kickL_len]; exact hl
        obtain ⟨⟨m1, m2⟩, _⟩ := move_loops (kickL l f (fmul .f32 1056964608 t)) c t (fmul .f32 1056964608 t) hkl
        have hml : (moveL (kickL l f (fmul .f32 1056964608 t)) t).length ≤ 2 ^ 40 := by rw [moveL_len]; exact hkl
        obtain ⟨v1, v2⟩ := pushed_eq (moveL (kickL l f (fmul .f32 1056964608 t)) t) c (fmul .f32 1056964608 t) hml
        have bad2 : (impl_pushed (moveL (kickL l f (fmul .f32 1056964608 t)) t) c (fmul .f32 1056964608 t) = .inl () ∨ impl_pushed (moveL (kickL l f (fmul .f32 1056964608 t)) t) c (fmul .f32 1056964608 t) = .inr ([], false)) → impl_StepBodies_need l c t = true ∧ impl_StepBodies l c t = .inl () := fun hb => by
          unfold impl_StepBodies_need impl_StepBodies impl_StepBodies_tree
          rcases hb with hb | hb
          · simp only [DT.ok, DT.val, IsFinite_need, IsFinite_eq, ht, Bool.not_true, half, u1, u2, isL, rightD, m1, m2, v1, hb]
            exact ⟨trivial, trivial⟩
          · simp only [DT.ok, DT.val, IsFinite_need, IsFinite_eq, ht, Bool.not_true, half, u1, u2, isL, rightD, m1, m2, v1, hb, Bool.not_false]
            exact ⟨trivial, trivial⟩
        simp only [Bool.and_self]
        cases hm : okL (moveL (kickL l f (fmul .f32 1056964608 t)) t) with
        | false =>
          rw [hm, Bool.false_and] at v2
          exact bad2 v2
        | true =>
          rw [hm, hc.2, Bool.and_self] at v2
          simp only at v2
          cases hg : spec_l02Pulls (moveL (kickL l f (fmul .f32 1056964608 t)) t) c with
          | inl u =>
            rw [hg] at v2
            exact bad2 v2
          | inr g =>
            rw [hg] at v2
            simp only at v2
            obtain ⟨g1, g2, g3, g4⟩ := give_same (kickL (moveL (kickL l f (fmul .f32 1056964608 t)) t) g (fmul .f32 1056964608 t)) (by rw [kickL_len]; omega)
            unfold impl_StepBodies_need impl_StepBodies impl_StepBodies_tree
            simp only [DT.ok, DT.val, IsFinite_need, IsFinite_eq, ht, Bool.not_true, half, u1, u2, isL, rightD, m1, m2, v1, v2, g1, g3, g4]
            cases okL (kickL (moveL (kickL l f (fmul .f32 1056964608 t)) t) g (fmul .f32 1056964608 t)) <;> simp only [cond_true, cond_false, isL] <;> exact ⟨trivial, trivial⟩

theorem can_eq (l : List Body) (c t : Nat) (hl : l.length ≤ 2 ^ 40) : spec_l02Can_need l c t = true ∧ spec_l02Can l c t = (isNum .f32 t && (okL l && spec_l02Least c)) := by
  obtain ⟨a1, a2⟩ := l02Are_eq l (by omega)
  unfold spec_l02Can_need spec_l02Can spec_l02Can_tree
  simp only [DT.ok, DT.val, a1, a2, l01Finite_eq]
  cases okL l <;> cases spec_l02Least c <;> cases isNum .f32 t <;> constructor <;> first | trivial | rfl

theorem step_same (l : List Body) (c t : Nat) (hl : l.length ≤ 2 ^ 40) : impl_StepBodies_need l c t = true ∧ spec_StepBodies_need l c t = true ∧ impl_StepBodies l c t = spec_StepBodies l c t ∧ ∀ r, spec_StepBodies l c t = .inr r → okL r = true := by
  obtain ⟨a1, a2⟩ := step_impl l c t hl
  obtain ⟨b1, b2⟩ := can_eq l c t hl
  refine ⟨a1, ?_⟩
  rw [a2]
  unfold spec_StepBodies_need spec_StepBodies spec_StepBodies_tree
  cases hc : isNum .f32 t && (okL l && spec_l02Least c) with
  | false =>
    simp only [DT.ok, DT.val, b1, b2, hc, Bool.not_false]
    exact ⟨trivial, trivial, fun r h => by cases h⟩
  | true =>
    have hok : okL l = true := by
      simp only [Bool.and_eq_true] at hc
      exact hc.2.1
    obtain ⟨s1, s2⟩ := step_spec l c t hok
    simp only [DT.ok, DT.val, b1, b2, hc, Bool.not_true, s1, s2]
    cases hs : stepP l c t with
    | inl u =>
      simp only [isL]
      exact ⟨trivial, trivial, fun r h => by cases h⟩
    | inr r =>
      simp only [isL, rightD]
      exact ⟨trivial, trivial, fun q h => by cases h; exact stepP_ok hs⟩

end Go.Proofs.Ytodhhjcgjkfmpaa
