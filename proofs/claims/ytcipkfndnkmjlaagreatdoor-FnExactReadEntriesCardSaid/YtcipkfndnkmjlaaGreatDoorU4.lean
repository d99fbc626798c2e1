/- Plain law of what is read, part 4: entries: the program's and the reference's; the law of ReadEntries. -/
import Derived.Test.YtcipkfndnkmjlaaGreatDoorU3
namespace Go.Proofs.YtcipkfndnkmjlaaGreatDoor
set_option linter.unusedVariables false
set_option linter.unusedSimpArgs false

theorem getD_mem {α : Type} {l : List α} {d : α} {i : Nat} (h : i < l.length) : l.getD i d ∈ l := getD_in h

theorem aLength_same (x : Nat) : impl_aLength_need x = true ∧ impl_aLength x = spec_l02Above x := by
  unfold impl_aLength_need impl_aLength impl_aLength_tree spec_l02Above spec_l02Above_tree
  simp only [DT.ok, DT.val, IsFinite_need, IsFinite_eq, l01Finite_eq]
  cases isNum .f32 x <;> constructor <;> first | trivial | rfl
def turnB (x : Nat) : Bool := fge .f32 x 0 && flt .f32 x 1065353216
def validO (o : Orbit) : Bool := isNum .f32 o.Long && (isNum .f32 o.Round && ((fge .f32 o.Tilt 0 && fle .f32 o.Tilt 1056964608) && (turnB o.Node && (turnB o.Peri && match fgt .f32 o.Long 0 with
  | true => fge .f32 o.Round 0 && (flt .f32 o.Round 1065353216 && turnB o.Phase)
  | false => flt .f32 o.Long 0 && (fgt .f32 o.Round 1065353216 && (fge .f32 o.Phase 3246391296 && fle .f32 o.Phase 1098907648))))))

theorem l03Turn_eq (x : Nat) : spec_l03Turn x = turnB x := by
  unfold spec_l03Turn spec_l03Turn_tree turnB
  cases h : fge .f32 x 0 <;> simp only [DT.val, h] <;> rfl
theorem isTurn_eq (x : Nat) : impl_isTurn x = turnB x := by
  unfold impl_isTurn impl_isTurn_tree turnB
  cases h : fge .f32 x 0 <;> simp only [DT.val, h] <;> rfl

theorem l03Is_eq (o : Orbit) : spec_l03Is o = validO o := by
  unfold spec_l03Is spec_l03Is_tree validO
  simp only [l01Finite_eq, l03Turn_eq]
  generalize turnB o.Node = t1
  generalize turnB o.Peri = t2
  generalize turnB o.Phase = t3
  cases isNum .f32 o.Long <;> cases isNum .f32 o.Round <;> try rfl
  cases fge .f32 o.Tilt 0 <;> cases fle .f32 o.Tilt 1056964608 <;> cases t1 <;> cases t2 <;> try rfl
  cases fgt .f32 o.Long 0
  · cases flt .f32 o.Long 0 <;> cases fgt .f32 o.Round 1065353216 <;> cases fge .f32 o.Phase 3246391296 <;> rfl
  · cases fge .f32 o.Round 0 <;> cases flt .f32 o.Round 1065353216 <;> rfl

theorem consts32 : isNum .f32 0 = true ∧ isNum .f32 1065353216 = true ∧ isNum .f32 1056964608 = true ∧ isNum .f32 3246391296 = true ∧ isNum .f32 1098907648 = true := by decide +kernel

theorem turn_num {x : Nat} (h : turnB x = true) : isNum .f32 x = true := by
  unfold turnB at h
  rw [Bool.and_eq_true] at h
  exact num_between consts32.1 consts32.2.1 h.1 (.inl h.2)

theorem fgt_flt {x : Nat} (h : fgt .f32 x 0 = true) : flt .f32 x 0 = false := by
  unfold fgt at h
  unfold flt
  cases hx : FloatKind.f32.format.order x 0 with
  | none => rw [hx] at h; cases h
  | some o => rw [hx] at h; cases o <;> first | rfl | cases h

theorem ValidOrbit_eq (o : Orbit) : impl_ValidOrbit_need o = true ∧ impl_ValidOrbit o = validO o := by
  obtain ⟨a1, a2⟩ := areFinite_eq [o.Long, o.Round, o.Tilt, o.Node, o.Peri, o.Phase] (by show 6 ≤ 2 ^ 62; decide)
  refine ⟨?_, ?_⟩
  · unfold impl_ValidOrbit_need impl_ValidOrbit_tree
    simp only [DT.ok, a1, a2]
    repeat' split
    all_goals rfl
  · have he : impl_Orbit_isEllipse o = (fgt .f32 o.Long 0 && (fge .f32 o.Round 0 && (flt .f32 o.Round 1065353216 && turnB o.Phase))) := by
      unfold impl_Orbit_isEllipse impl_Orbit_isEllipse_tree
      simp only [isTurn_eq]
      cases fgt .f32 o.Long 0 <;> cases fge .f32 o.Round 0 <;> cases flt .f32 o.Round 1065353216 <;> rfl
    have hb : impl_Orbit_isBranch o = (flt .f32 o.Long 0 && (fgt .f32 o.Round 1065353216 && (fge .f32 o.Phase 3246391296 && fle .f32 o.Phase 1098907648))) := by
      unfold impl_Orbit_isBranch impl_Orbit_isBranch_tree
      cases flt .f32 o.Long 0 <;> cases fgt .f32 o.Round 1065353216 <;> cases fge .f32 o.Phase 3246391296 <;> rfl
    cases hv : validO o with
    | true =>
      have hv0 := hv
      unfold validO at hv
      simp only [Bool.and_eq_true] at hv
      obtain ⟨h1, h2, ⟨h3, h4⟩, h5, h6, h7⟩ := hv
      have n3 := num_between consts32.1 consts32.2.2.1 h3 (.inr h4)
      have n6 : isNum .f32 o.Phase = true := by
        cases hg : fgt .f32 o.Long 0 with
        | true =>
          rw [hg] at h7
          simp only [Bool.and_eq_true] at h7
          exact turn_num h7.2.2
        | false =>
          rw [hg] at h7
          simp only [Bool.and_eq_true] at h7
          exact num_between consts32.2.2.2.1 consts32.2.2.2.2 h7.2.2.1 (.inr h7.2.2.2)
      have hall : [o.Long, o.Round, o.Tilt, o.Node, o.Peri, o.Phase].all (isNum .f32) = true := by
        simp only [List.all_cons, List.all_nil, h1, h2, n3, turn_num h5, turn_num h6, n6, Bool.and_self]
      have hor : (impl_Orbit_isEllipse o || impl_Orbit_isBranch o) = true := by
        rw [he, hb]
        cases hg : fgt .f32 o.Long 0 with
        | true =>
          rw [hg] at h7
          have h7 : (fge .f32 o.Round 0 && (flt .f32 o.Round 1065353216 && turnB o.Phase)) = true := h7
          rw [h7]
          rfl
        | false =>
          rw [hg] at h7
          have h7 : (flt .f32 o.Long 0 && (fgt .f32 o.Round 1065353216 && (fge .f32 o.Phase 3246391296 && fle .f32 o.Phase 1098907648))) = true := h7
          rw [h7]
          rfl
      have he' : impl_Orbit_isEllipse (⟨o.Long, o.Round, o.Tilt, o.Node, o.Peri, o.Phase⟩ : Orbit) = impl_Orbit_isEllipse o := rfl
      have hb' : impl_Orbit_isBranch (⟨o.Long, o.Round, o.Tilt, o.Node, o.Peri, o.Phase⟩ : Orbit) = impl_Orbit_isBranch o := rfl
      unfold impl_ValidOrbit impl_ValidOrbit_tree
      simp only [DT.val, a2, hall, h3, h4, isTurn_eq, h5, h6, he', hb']
      cases hq : impl_Orbit_isEllipse o with
      | true => rfl
      | false => rw [hq, Bool.false_or] at hor; exact hor
    | false =>
      have he' : impl_Orbit_isEllipse (⟨o.Long, o.Round, o.Tilt, o.Node, o.Peri, o.Phase⟩ : Orbit) = impl_Orbit_isEllipse o := rfl
      have hb' : impl_Orbit_isBranch (⟨o.Long, o.Round, o.Tilt, o.Node, o.Peri, o.Phase⟩ : Orbit) = impl_Orbit_isBranch o := rfl
      have hform : impl_ValidOrbit o = (([o.Long, o.Round, o.Tilt, o.Node, o.Peri, o.Phase].all (isNum .f32)) && ((fge .f32 o.Tilt 0 && fle .f32 o.Tilt 1056964608) && (turnB o.Node && (turnB o.Peri && (impl_Orbit_isEllipse o || impl_Orbit_isBranch o))))) := by
        unfold impl_ValidOrbit impl_ValidOrbit_tree
        simp only [a2, isTurn_eq, he', hb']
        generalize [o.Long, o.Round, o.Tilt, o.Node, o.Peri, o.Phase].all (isNum .f32) = c
        generalize turnB o.Node = t1
        generalize turnB o.Peri = t2
        cases c <;> cases fge .f32 o.Tilt 0 <;> cases fle .f32 o.Tilt 1056964608 <;> cases t1 <;> cases t2 <;> cases impl_Orbit_isEllipse o <;> rfl
      rw [hform]
      refine Bool.eq_false_iff.2 fun ht => ?_
      simp only [Bool.and_eq_true, List.all_cons] at ht
      obtain ⟨⟨h1, h2, _⟩, ⟨h3, h4⟩, h5, h6, h7⟩ := ht
      rw [he, hb] at h7
      unfold validO at hv
      rw [h1, h2, h3, h4, h5, h6] at hv
      cases hg : fgt .f32 o.Long 0 with
      | true =>
        rw [hg, fgt_flt hg, Bool.false_and, Bool.or_false, Bool.true_and] at h7
        rw [hg] at hv
        simp only [Bool.true_and] at hv
        rw [h7] at hv
        cases hv
      | false =>
        rw [hg, Bool.false_and, Bool.false_or] at h7
        rw [hg] at hv
        simp only [Bool.true_and] at hv
        rw [h7] at hv
        cases hv


/-! ## Names and entries -/

theorem name_loops (l : List UInt8) : (∀ s, loopVal (impl_IsName_loop0_step (l, ((l.length : Nat) : Int))) s = loopVal (spec_l07Name_loop0_step l) s) ∧ ∀ s, loopEnds (impl_IsName_loop0_step (l, ((l.length : Nat) : Int))) s = loopEnds (spec_l07Name_loop0_step l) s :=
  loop_alike fun s => rfl

theorem name_ends (l : List UInt8) (hl : l.length ≤ 2 ^ 62) : spec_l07Name_loop0_ends l 0 = true := by
  obtain ⟨h1, _⟩ := scan_loop (α := Unit) (β := Unit) (step := spec_l07Name_loop0_step l) l.length (fun i => bif decide (((l.getD i 0).toNat : Int) < 97) || decide (((l.getD i 0).toNat : Int) > 122) then some () else none) () (fun i hi => by
    refine ⟨[], ?_⟩
    unfold spec_l07Name_loop0_step
    simp only [DT.get, nat_dec hi, nat_ge, Bool.and_self, Int.toNat_natCast, nat_next hi hl]
    cases decide (((l.getD i 0).toNat : Int) < 97) <;> cases decide (((l.getD i 0).toNat : Int) > 122) <;> rfl) ⟨[], by
    unfold spec_l07Name_loop0_step
    simp only [DT.get, nat_not]⟩
  exact h1

theorem name_same (l : List UInt8) (hl : l.length ≤ 2 ^ 62) : impl_IsName_need l = true ∧ spec_l07Name_need l = true ∧ impl_IsName l = spec_l07Name l := by
  have hs := name_ends l hl
  have hi : impl_IsName_loop0_ends (l, ((l.length : Nat) : Int)) 0 = true := ((name_loops l).2 0).trans hs
  have hv : impl_IsName_loop0 (l, ((l.length : Nat) : Int)) 0 = spec_l07Name_loop0 l 0 := (name_loops l).1 0
  refine ⟨?_, ?_, ?_⟩
  · unfold impl_IsName_need impl_IsName_tree
    simp only [DT.ok, hi]
    repeat' split
    all_goals rfl
  · unfold spec_l07Name_need spec_l07Name_tree
    simp only [DT.ok, hs]
    repeat' split
    all_goals rfl
  · unfold impl_IsName impl_IsName_tree spec_l07Name spec_l07Name_tree
    simp only [DT.val, hv]

theorem entry_same (e : Entry) (hl : e.Name.length ≤ 2 ^ 62) : impl_ValidEntry_need e = true ∧ spec_l07Entry_need e = true ∧ impl_ValidEntry e = spec_l07Entry e := by
  obtain ⟨n1, n2, n3⟩ := name_same e.Name hl
  obtain ⟨m1, m2⟩ := aLength_same e.Mass
  obtain ⟨o1, o2⟩ := ValidOrbit_eq (⟨e.Orb.Long, e.Orb.Round, e.Orb.Tilt, e.Orb.Node, e.Orb.Peri, e.Orb.Phase⟩ : Orbit)
  have o3 := l03Is_eq (⟨e.Orb.Long, e.Orb.Round, e.Orb.Tilt, e.Orb.Node, e.Orb.Peri, e.Orb.Phase⟩ : Orbit)
  refine ⟨?_, ?_, ?_⟩
  · unfold impl_ValidEntry_need impl_ValidEntry_tree
    simp only [DT.ok, n1, m1, o1]
    repeat' split
    all_goals rfl
  · unfold spec_l07Entry_need spec_l07Entry_tree
    simp only [DT.ok, n2]
    repeat' split
    all_goals rfl
  · unfold impl_ValidEntry impl_ValidEntry_tree spec_l07Entry spec_l07Entry_tree
    simp only [DT.val, n3, m2, o2, o3]

theorem eqOrbit_self (o : Orbit) : laws_eqOrbit_need o o = true ∧ laws_eqOrbit o o = true := by
  unfold laws_eqOrbit_need laws_eqOrbit laws_eqOrbit_tree
  simp only [DT.ok, DT.val, fconvOk_up, sameFloat_self, Bool.not_true]
  exact ⟨trivial, trivial⟩

theorem eqEntry_self (e : Entry) : laws_eqEntry_need e e = true ∧ laws_eqEntry e e = true := by
  unfold laws_eqEntry_need laws_eqEntry laws_eqEntry_tree
  simp only [DT.ok, DT.val, fconvOk_up, sameFloat_self, (eqOrbit_self _).1, (eqOrbit_self _).2, beq_self_eq_true, Bool.not_true]
  exact ⟨trivial, trivial⟩

theorem eqEntryS_self (l : List Entry) (hl : l.length ≤ 2 ^ 62) : laws_eqEntryS_need l l = true ∧ laws_eqEntryS l l = true := by
  obtain ⟨h1, h2⟩ := scan_loop (α := Unit) (β := Unit) (step := laws_eqEntryS_loop0_step (l, l)) l.length (fun _ => none) () (fun i hi => ⟨[], by
    unfold laws_eqEntryS_loop0_step
    simp only [DT.get, nat_dec hi, nat_ge, Bool.and_self, (eqEntry_self _).1, (eqEntry_self _).2, Bool.not_true, nat_next hi hl]⟩) ⟨[], by
    unfold laws_eqEntryS_loop0_step
    simp only [DT.get, nat_not]⟩
  have hf : firstOf (fun _ => (none : Option Unit)) l.length = none := by
    unfold firstOf
    rw [List.findSome?_eq_none_iff]
    exact fun _ _ => rfl
  rw [hf] at h2
  have h1 : laws_eqEntryS_loop0_ends (l, l) 0 = true := h1
  have h2 : laws_eqEntryS_loop0 (l, l) 0 = .inr () := h2
  have hne : (((l.length : Nat) : Int) != ((l.length : Nat) : Int)) = false := by simp
  unfold laws_eqEntryS_need laws_eqEntryS laws_eqEntryS_tree
  simp only [DT.ok, DT.val, hne, h1, h2, isL]
  exact ⟨trivial, trivial⟩

/-! ## Marks -/

theorem markText_need (k : Int) (h0 : 0 < k) (h1 : k ≤ 2 ^ 52) : laws_markText_need k = true := by
  have h : loopEnds (laws_markText_loop0_step ()) (k, []) = true ∧ (fun r : List UInt8 => (r.length : Int) ≤ k) (loopVal (laws_markText_loop0_step ()) (k, [])) := by
    refine loop_post (step := laws_markText_loop0_step ()) (fun s => 0 ≤ s.1 ∧ s.1 + (s.2.length : Int) ≤ k) (fun s => s.1.toNat) (fun r => (r.length : Int) ≤ k) ?_ (k, []) ⟨by show 0 ≤ k; omega, by show k + ((0 : Nat) : Int) ≤ k; omega⟩
    rintro ⟨n, t⟩ ⟨a0, a1⟩
    simp only at a0 a1
    by_cases hn : n = 0
    · subst hn
      exact ⟨.inr t, [], rfl, by show (t.length : Int) ≤ k; omega⟩
    · have e1 : decide (n > 0) = true := decide_eq_true (by omega)
      have e2 : Int.tdiv n 10 = n / 10 := Int.tdiv_eq_ediv_of_nonneg a0
      have e3 : IntKind.wrap .i64 (n / 10) = n / 10 := wrap_small (by omega) (by omega)
      have e4 : ∀ b : Int, (strOf [b]).length = 1 := fun b => rfl
      have e5 : decide (1 + t.length ≤ 9223372036854775807) = true := decide_eq_true (by omega)
      refine ⟨.inl (n / 10, strOf [IntKind.wrap .u8 (IntKind.wrap .i64 (48 + Int.tmod n 10))] ++ t), [], ?_, ⟨?_, ?_⟩, ?_⟩
      · unfold laws_markText_loop0_step
        simp only [DT.get, e1, e2, e3, e4, e5]
      · show 0 ≤ n / 10
        omega
      · show n / 10 + ((strOf [_] ++ t).length : Int) ≤ k
        rw [List.length_append, e4]
        omega
      · show (n / 10).toNat < n.toNat
        omega
  have h2 : laws_markText_loop0_ends () (k, []) = true := h.1
  have h3 : ((laws_markText_loop0 () (k, [])).length : Int) ≤ k := h.2
  have e1 : decide (k ≤ 0) = false := decide_eq_false (by omega)
  have e2 : decide (List.length [109] + List.length (laws_markText_loop0 () (k, [])) ≤ 9223372036854775807) = true := decide_eq_true (by show 1 + _ ≤ _; omega)
  unfold laws_markText_need laws_markText_tree
  simp only [DT.ok, e1, h2, e2]

/-- What an entry holds that is marked from k on. -/
noncomputable def markE (k : Int) : Entry := ⟨laws_markText k, fofInt .f32 (k + 1), ⟨fofInt .f32 (k + 2), fofInt .f32 (k + 3), fofInt .f32 (k + 4), fofInt .f32 (k + 5), fofInt .f32 (k + 6), fofInt .f32 (k + 7)⟩⟩

theorem E_mark_step (l : List Entry) (k : Int) (i : Nat) (hi : i < l.length) (hl : l.length ≤ 2 ^ 40) (hk : 0 < k) (hk2 : k ≤ 2 ^ 50) :
    (laws_markEntryS_loop0_step () (k, (i : Int), l)).get = some (.inl (k + 8, ((i + 1 : Nat) : Int), List.set l i (markE k)), [0]) := by
  have hd : decide (((i : Nat) : Int) < ((l.length : Nat) : Int)) = true := nat_dec hi
  have hin2 : decide (Int.toNat ((i : Nat) : Int) < l.length) = true := decide_eq_true (by omega)
  have hlen : ∀ x : Entry, (List.set l i x).length = l.length := fun x => List.length_set ..
  have ht : Int.toNat ((i : Nat) : Int) = i := Int.toNat_natCast i
  have h00 : decide ((0 : Int) ≤ ((i : Nat) : Int)) = true := decide_eq_true (by omega)
  have m0 := markText_need k hk (by omega)
  have w1 : IntKind.wrap .i64 (k + 1) = k + 1 := wrap_small (by omega) (by omega)
  have w2 : IntKind.wrap .i64 (k + 1 + 1) = k + 2 := by rw [wrap_small (by omega) (by omega)]; omega
  have w3 : IntKind.wrap .i64 (k + 2 + 1) = k + 3 := by rw [wrap_small (by omega) (by omega)]; omega
  have w4 : IntKind.wrap .i64 (k + 3 + 1) = k + 4 := by rw [wrap_small (by omega) (by omega)]; omega
  have w5 : IntKind.wrap .i64 (k + 4 + 1) = k + 5 := by rw [wrap_small (by omega) (by omega)]; omega
  have w6 : IntKind.wrap .i64 (k + 5 + 1) = k + 6 := by rw [wrap_small (by omega) (by omega)]; omega
  have w7 : IntKind.wrap .i64 (k + 6 + 1) = k + 7 := by rw [wrap_small (by omega) (by omega)]; omega
  have w8 : IntKind.wrap .i64 (k + 7 + 1) = k + 8 := by rw [wrap_small (by omega) (by omega)]; omega
  have wi : IntKind.wrap .i64 (((i : Nat) : Int) + 1) = ((i + 1 : Nat) : Int) := nat_next hi (by omega)
  unfold laws_markEntryS_loop0_step
  simp only [DT.get, hd, h00, Bool.and_self, m0, hin2, ht, hlen, List.length_set, getD_set hi, List.set_set, w1, w2, w3, w4, w5, w6, w7, w8, wi, markE, decide_eq_true hi]

theorem E_mark_all (l : List Entry) (hl : l.length ≤ 2 ^ 40) : laws_markEntryS_need l 1 = true ∧ (laws_markEntryS l 1).1 = 1 + 8 * (l.length : Int) ∧ (laws_markEntryS l 1).2.length = l.length ∧ ∀ j, j < l.length → (laws_markEntryS l 1).2.getD j default = markE (1 + 8 * (j : Int)) := by
  obtain ⟨h1, h2⟩ := loop_post (step := laws_markEntryS_loop0_step ()) (fun s => ∃ i : Nat, s.2.1 = (i : Int) ∧ i ≤ l.length ∧ s.1 = 1 + 8 * (i : Int) ∧ s.2.2.length = l.length ∧ ∀ j, j < i → s.2.2.getD j default = markE (1 + 8 * (j : Int))) (fun s => l.length - s.2.1.toNat)
    (fun r => r.1 = 1 + 8 * (l.length : Int) ∧ r.2.length = l.length ∧ ∀ j, j < l.length → r.2.getD j default = markE (1 + 8 * (j : Int))) (by
    rintro ⟨k, s, m⟩ ⟨i, hs, hi, hk, hm, hj⟩
    simp only at hs hk hm hj
    subst hs hk
    rcases Nat.lt_or_ge i l.length with hlt | hge
    · refine ⟨_, _, E_mark_step m _ i (by omega) (by omega) (by omega) (by omega), ⟨i + 1, rfl, hlt, ?_, ?_, fun j hj' => ?_⟩, ?_⟩
      · show 1 + 8 * (i : Int) + 8 = _
        omega
      · rw [List.length_set]; exact hm
      · rcases Nat.lt_or_ge j i with h | h
        · rw [getD_set_ne (by omega)]; exact hj j h
        · rw [show j = i from by omega, getD_set (by omega)]
      · show l.length - ((i + 1 : Nat) : Int).toNat < l.length - ((i : Nat) : Int).toNat
        rw [Int.toNat_natCast, Int.toNat_natCast]
        omega
    · have he : i = l.length := Nat.le_antisymm hi hge
      refine ⟨.inr (1 + 8 * (i : Int), m), [0], ?_, ?_, hm, fun j hj' => hj j (by omega)⟩
      · unfold laws_markEntryS_loop0_step
        simp only [DT.get, hm, he, nat_not]
      · rw [he]) (1, 0, l) ⟨0, rfl, Nat.zero_le _, rfl, rfl, fun j hj => absurd hj (Nat.not_lt_zero j)⟩
  have h1 : laws_markEntryS_loop0_ends () (1, 0, l) = true := h1
  have hv : laws_markEntryS l 1 = ((laws_markEntryS_loop0 () (1, 0, l)).1, (laws_markEntryS_loop0 () (1, 0, l)).2) := rfl
  refine ⟨?_, ?_⟩
  · unfold laws_markEntryS_need laws_markEntryS_tree
    simp only [DT.ok, h1]
  · rw [hv]
    exact h2

theorem E_held_all (l : List Entry) (hl : l.length ≤ 2 ^ 40) (h : ∀ j, j < l.length → l.getD j default = markE (1 + 8 * (j : Int))) : laws_heldEntryS_need l 1 = true ∧ laws_heldEntryS l 1 = 1 + 8 * (l.length : Int) := by
  obtain ⟨h1, h2⟩ := loop_post (step := laws_heldEntryS_loop0_step l) (fun s => ∃ i : Nat, s.2 = (i : Int) ∧ i ≤ l.length ∧ s.1 = 1 + 8 * (i : Int)) (fun s => l.length - s.2.toNat)
    (fun r => r = .inr (1 + 8 * (l.length : Int))) (by
    rintro ⟨k, s⟩ ⟨i, hs, hi, hk⟩
    simp only at hs hk
    subst hs
    rcases Nat.lt_or_ge i l.length with hlt | hge
    · have hk0 : 0 < k := by omega
      have hk1 : k ≤ 2 ^ 50 := by omega
      have hd := nat_dec hlt
      have ht : Int.toNat ((i : Nat) : Int) = i := Int.toNat_natCast i
      have h00 : decide ((0 : Int) ≤ ((i : Nat) : Int)) = true := decide_eq_true (by omega)
      have m0 := markText_need k hk0 (by omega)
      have w1 : IntKind.wrap .i64 (k + 1) = k + 1 := wrap_small (by omega) (by omega)
      have w2 : IntKind.wrap .i64 (k + 1 + 1) = k + 2 := by rw [wrap_small (by omega) (by omega)]; omega
      have w3 : IntKind.wrap .i64 (k + 2 + 1) = k + 3 := by rw [wrap_small (by omega) (by omega)]; omega
      have w4 : IntKind.wrap .i64 (k + 3 + 1) = k + 4 := by rw [wrap_small (by omega) (by omega)]; omega
      have w5 : IntKind.wrap .i64 (k + 4 + 1) = k + 5 := by rw [wrap_small (by omega) (by omega)]; omega
      have w6 : IntKind.wrap .i64 (k + 5 + 1) = k + 6 := by rw [wrap_small (by omega) (by omega)]; omega
      have w7 : IntKind.wrap .i64 (k + 6 + 1) = k + 7 := by rw [wrap_small (by omega) (by omega)]; omega
      have w8 : IntKind.wrap .i64 (k + 7 + 1) = k + 8 := by rw [wrap_small (by omega) (by omega)]; omega
      have wi : IntKind.wrap .i64 (((i : Nat) : Int) + 1) = ((i + 1 : Nat) : Int) := nat_next hlt (by omega)
      have hg : l.getD i default = markE k := by rw [h i hlt, hk]
      have f1 := fne_mark (n := k + 1) (by omega) (by omega)
      have f2 := fne_mark (n := k + 2) (by omega) (by omega)
      have f3 := fne_mark (n := k + 3) (by omega) (by omega)
      have f4 := fne_mark (n := k + 4) (by omega) (by omega)
      have f5 := fne_mark (n := k + 5) (by omega) (by omega)
      have f6 := fne_mark (n := k + 6) (by omega) (by omega)
      have f7 := fne_mark (n := k + 7) (by omega) (by omega)
      refine ⟨.inl (k + 8, ((i + 1 : Nat) : Int)), [], ?_, ⟨i + 1, rfl, hlt, ?_⟩, ?_⟩
      · unfold laws_heldEntryS_loop0_step
        simp only [DT.get, hd, h00, Bool.and_self, m0, ht, hg, markE, beq_self_eq_true, Bool.not_true, w1, w2, w3, w4, w5, w6, w7, w8, wi, f1, f2, f3, f4, f5, f6, f7]
      · show k + 8 = _
        omega
      · show l.length - ((i + 1 : Nat) : Int).toNat < l.length - ((i : Nat) : Int).toNat
        rw [Int.toNat_natCast, Int.toNat_natCast]
        omega
    · have he : i = l.length := Nat.le_antisymm hi hge
      refine ⟨.inr (.inr k), [], ?_, ?_⟩
      · unfold laws_heldEntryS_loop0_step
        simp only [DT.get, he, nat_not]
      · rw [hk, he]) (1, 0) ⟨0, rfl, Nat.zero_le _, rfl⟩
  have h1 : laws_heldEntryS_loop0_ends l (1, 0) = true := h1
  have h2 : laws_heldEntryS_loop0 l (1, 0) = .inr (1 + 8 * (l.length : Int)) := h2
  unfold laws_heldEntryS_need laws_heldEntryS laws_heldEntryS_tree
  simp only [DT.ok, DT.val, h1, h2, isL, rightD]
  exact ⟨trivial, trivial⟩

theorem E_len_pos (n : Nat) : decide (1 + 8 * (n : Int) < 0) = false := decide_eq_false (by omega)
theorem E_len_ne (n : Nat) : ((1 + 8 * (n : Int)) != 1 + 8 * (n : Int)) = false := by simp

noncomputable def goodE (l : List Entry) (i : Nat) : Bool := spec_l07Entry (l.getD i default) && (decide (i = 0) || Op.bytesLess (l.getD (i - 1) default).Name (l.getD i default).Name)
noncomputable def firstE (l : List Entry) : Option Unit := firstOf (fun i => bif goodE l i then none else some ()) l.length
/-- Entries. -/
noncomputable def okE (l : List Entry) : Bool := decide (((l.length : Nat) : Int) ≤ 16) && (firstE l).isNone

theorem entries_round (l : List Entry) (hl : l.length ≤ 2 ^ 40) (hf : ∀ e ∈ l, e.Name.length ≤ 2 ^ 62) (i : Nat) (hi : i < l.length) : (impl_AreEntries_loop0_step (l, l, ((l.length : Nat) : Int)) i).get = some ((bif goodE l i then .inl ((i + 1 : Nat) : Int) else .inr (.inl ())), []) ∧
    (decide (((l.length : Nat) : Int) ≤ 16) = true → (spec_l07List_loop0_step l i).get = some ((bif goodE l i then .inl ((i + 1 : Nat) : Int) else .inr (.inl ())), [])) := by
  have e1 : (⟨(l.getD i default).Name, (l.getD i default).Mass, ⟨(l.getD i default).Orb.Long, (l.getD i default).Orb.Round, (l.getD i default).Orb.Tilt, (l.getD i default).Orb.Node, (l.getD i default).Orb.Peri, (l.getD i default).Orb.Phase⟩⟩ : Entry) = l.getD i default := rfl
  obtain ⟨s1, s2, s3⟩ := entry_same (l.getD i default) (hf _ (getD_mem hi))
  have hn := nat_next hi (by omega)
  unfold impl_AreEntries_loop0_step spec_l07List_loop0_step goodE
  cases hv : spec_l07Entry (l.getD i default) with
  | false =>
    constructor
    · simp only [DT.get, nat_dec hi, nat_ge, Bool.and_self, Int.toNat_natCast, e1, s1, s3, hv, Bool.not_false, Bool.false_and, cond_false]
    · intro h16
      simp only [DT.get, nat_dec hi, nat_ge, Bool.and_self, Int.toNat_natCast, e1, h16, s2, hv, Bool.not_false, Bool.false_and, cond_false]
  | true =>
    rcases Nat.eq_zero_or_pos i with hz | hz
    · subst hz
      have d0 : decide (((0 : Nat) : Int) > 0) = false := rfl
      constructor
      · simp only [DT.get, nat_dec hi, nat_ge, Bool.and_self, Int.toNat_natCast, e1, s1, s3, hv, Bool.not_true, d0, hn, decide_true, Bool.true_or, Bool.true_and, cond_true]
      · intro h16
        simp only [DT.get, nat_dec hi, nat_ge, Bool.and_self, Int.toNat_natCast, e1, h16, s2, hv, Bool.not_true, d0, hn, decide_true, Bool.true_or, Bool.true_and, cond_true]
    · have d0 : decide (((i : Nat) : Int) > 0) = true := decide_eq_true (by omega)
      have hw : IntKind.wrap .i64 (((i : Nat) : Int) - 1) = ((i - 1 : Nat) : Int) := by rw [wrap_small (by omega) (by omega)]; omega
      have hi' : i - 1 < l.length := by omega
      have hz0 : decide (i = 0) = false := decide_eq_false (by omega)
      constructor
      · cases hb : Op.bytesLess (l.getD (i - 1) default).Name (l.getD i default).Name <;>
        simp only [DT.get, nat_dec hi, nat_ge, Bool.and_self, Int.toNat_natCast, e1, s1, s3, hv, Bool.not_true, Bool.not_false, d0, hw, nat_dec hi', hn, hz0, hb, Bool.false_or, Bool.true_and, cond_true, cond_false]
      · intro h16
        cases hb : Op.bytesLess (l.getD (i - 1) default).Name (l.getD i default).Name <;>
        simp only [DT.get, nat_dec hi, nat_ge, Bool.and_self, Int.toNat_natCast, e1, h16, s2, hv, Bool.not_true, Bool.not_false, d0, hw, nat_dec hi', hn, hz0, hb, Bool.false_or, Bool.true_and, cond_true, cond_false]

theorem AreEntries_eq (l : List Entry) (hl : l.length ≤ 2 ^ 40) (hf : ∀ e ∈ l, e.Name.length ≤ 2 ^ 62) : impl_AreEntries_need l = true ∧ impl_AreEntries l = okE l := by
  obtain ⟨h1, h2⟩ := scan_loop (α := Unit) (β := Unit) (step := impl_AreEntries_loop0_step (l, l, ((l.length : Nat) : Int))) l.length (fun i => bif goodE l i then none else some ()) () (fun i hi => ⟨[], by rw [(entries_round l hl hf i hi).1]; cases goodE l i <;> rfl⟩) ⟨[], by
    unfold impl_AreEntries_loop0_step
    simp only [DT.get, nat_not]⟩
  have h1 : impl_AreEntries_loop0_ends (l, l, ((l.length : Nat) : Int)) 0 = true := h1
  have key : (impl_AreEntries_tree l).get = some (okE l) := by
    unfold impl_AreEntries_tree okE
    cases hq : firstE l with
    | none =>
      have hq : firstOf (fun i => bif goodE l i then none else some ()) l.length = none := hq
      rw [hq] at h2
      have h2 : impl_AreEntries_loop0 (l, l, ((l.length : Nat) : Int)) 0 = .inr () := h2
      simp only [DT.get, h1, h2, isL, Option.isNone_none, Bool.and_true]
    | some a =>
      have hq : firstOf (fun i => bif goodE l i then none else some ()) l.length = some a := hq
      rw [hq] at h2
      have h2 : impl_AreEntries_loop0 (l, l, ((l.length : Nat) : Int)) 0 = .inl a := h2
      simp only [DT.get, h1, h2, isL, Option.isNone_some, Bool.and_false]
  exact DT.of_get key

theorem l07List_eq (l : List Entry) (hl : l.length ≤ 2 ^ 40) (hf : ∀ e ∈ l, e.Name.length ≤ 2 ^ 62) : spec_l07List_need l = true ∧ spec_l07List l = okE l := by
  cases h16 : decide (((l.length : Nat) : Int) ≤ 16) with
  | true =>
    obtain ⟨h1, h2⟩ := scan_loop (α := Unit) (β := Unit) (step := spec_l07List_loop0_step l) l.length (fun i => bif goodE l i then none else some ()) () (fun i hi => ⟨[], by rw [(entries_round l hl hf i hi).2 h16]; cases goodE l i <;> rfl⟩) ⟨[], by
      unfold spec_l07List_loop0_step
      simp only [DT.get, nat_not]⟩
    have h1 : spec_l07List_loop0_ends l 0 = true := h1
    have key : (spec_l07List_tree l).get = some (okE l) := by
      unfold spec_l07List_tree okE
      cases hq : firstE l with
      | none =>
        have hq : firstOf (fun i => bif goodE l i then none else some ()) l.length = none := hq
        rw [hq] at h2
        have h2 : spec_l07List_loop0 l 0 = .inr () := h2
        simp only [DT.get, h1, h2, isL, Option.isNone_none, Bool.and_true, h16]
      | some a =>
        have hq : firstOf (fun i => bif goodE l i then none else some ()) l.length = some a := hq
        rw [hq] at h2
        have h2 : spec_l07List_loop0 l 0 = .inl a := h2
        simp only [DT.get, h1, h2, isL, Option.isNone_some, Bool.and_false]
    exact DT.of_get key
  | false =>
    have h16' := of_decide_eq_false h16
    obtain ⟨h1, h2⟩ := loop_post (step := spec_l07List_loop0_step l) (fun s => s = 0) (fun _ => 0) (fun r => r = .inr ()) (by
      rintro s rfl
      have hd : decide ((0 : Int) < ((l.length : Nat) : Int)) = true := decide_eq_true (by omega)
      refine ⟨.inr (.inr ()), [], ?_, rfl⟩
      unfold spec_l07List_loop0_step
      simp only [DT.get, hd, h16]) 0 rfl
    have h1 : spec_l07List_loop0_ends l 0 = true := h1
    have h2 : spec_l07List_loop0 l 0 = .inr () := h2
    have key : (spec_l07List_tree l).get = some (okE l) := by
      unfold spec_l07List_tree okE
      simp only [DT.get, h1, h2, isL, h16, Bool.false_and]
    exact DT.of_get key


/-! ## An entry of a text -/

theorem cutAt58_some {s : List UInt8} {m : Nat} (hm : Go.Lib.indexByte s 58 = (m : Int)) (hl : m < s.length) (hs : s.length ≤ 2 ^ 40) : strings_Cut_k58_need s = true ∧ strings_Cut_k58 s = (s.take m, s.drop (m + 1), true) := by
  have hx : internal_stringslite_Index_k58 s = ((m : Nat) : Int) := (show internal_stringslite_Index_k58 s = strings_Index_k58 s from rfl).trans ((C58.index_eq s).trans hm)
  have d1 : decide (((m : Nat) : Int) ≥ 0) = true := decide_eq_true (by omega)
  have d2 : (decide ((0 : Int) ≤ ((m : Nat) : Int)) && decide (((m : Nat) : Int) ≤ ((List.length s : Nat) : Int))) = true := by rw [Bool.and_eq_true, decide_eq_true_eq, decide_eq_true_eq]; omega
  have w : IntKind.wrap .i64 (((m : Nat) : Int) + 1) = ((m + 1 : Nat) : Int) := by rw [wrap_small (by omega) (by omega)]; omega
  have d3 : (decide ((0 : Int) ≤ ((m + 1 : Nat) : Int)) && decide (((m + 1 : Nat) : Int) ≤ ((List.length s : Nat) : Int))) = true := by rw [Bool.and_eq_true, decide_eq_true_eq, decide_eq_true_eq]; omega
  have k1 : (internal_stringslite_Cut_k58_tree s).get = some (s.take m, s.drop (m + 1), true) := by
    unfold internal_stringslite_Cut_k58_tree
    have d4 : decide (((m : Nat) : Int) ≤ ((List.length s : Nat) : Int)) = true := decide_eq_true (by omega)
    simp only [DT.get, hx, d1, d4, d2, w, d3, Bool.and_self, Int.toNat_natCast, List.drop_zero, List.take_length]
  obtain ⟨g1, g2⟩ := DT.of_get k1
  have g1 : internal_stringslite_Cut_k58_need s = true := g1
  have g2 : internal_stringslite_Cut_k58 s = _ := g2
  have k2 : (strings_Cut_k58_tree s).get = some (s.take m, s.drop (m + 1), true) := by
    unfold strings_Cut_k58_tree
    simp only [DT.get, g1, g2]
  exact DT.of_get k2

theorem cutAt58_none {s : List UInt8} (h : Go.Lib.indexByte s 58 = -1) : strings_Cut_k58_need s = true ∧ strings_Cut_k58 s = (s, [], false) := by
  have hx : internal_stringslite_Index_k58 s = -1 := (show internal_stringslite_Index_k58 s = strings_Index_k58 s from rfl).trans ((C58.index_eq s).trans h)
  have d1 : decide ((-1 : Int) ≥ 0) = false := rfl
  have k1 : (internal_stringslite_Cut_k58_tree s).get = some (s, [], false) := by
    unfold internal_stringslite_Cut_k58_tree
    simp only [DT.get, hx, d1]
  obtain ⟨g1, g2⟩ := DT.of_get k1
  have g1 : internal_stringslite_Cut_k58_need s = true := g1
  have g2 : internal_stringslite_Cut_k58 s = _ := g2
  have k2 : (strings_Cut_k58_tree s).get = some (s, [], false) := by
    unfold strings_Cut_k58_tree
    simp only [DT.get, g1, g2]
  exact DT.of_get k2

theorem index_none (c : UInt8) : ∀ {s : List UInt8}, c ∉ s → Go.Lib.indexByte s c = -1
  | [], _ => rfl
  | b :: r, h => by
    have hb : (b == c) = false := by
      rw [beq_eq_false_iff_ne]
      exact fun e => h (by rw [e]; exact List.mem_cons_self ..)
    unfold Go.Lib.indexByte
    rw [hb, index_none c fun hr => h (List.mem_cons_of_mem _ hr)]
    rfl

/-- A colon is no digit's: with one, no numbers are read. -/
theorem foldH_colon : ∀ {l : List UInt8}, 58 ∈ l → ∀ acc, foldH acc l = none
  | [], h, _ => by cases h
  | c :: r, h, acc => by
    unfold foldH
    rcases List.mem_cons.1 h with e | e
    · have : lowV c = none := by rw [← e]; rfl
      rw [this]
    · cases lowV c with
      | none => rfl
      | some d => exact foldH_colon e _
theorem wordP_colon {w : List UInt8} (h : 58 ∈ w) : wordP w = none := by
  unfold wordP
  cases decide (w.length = 8) with
  | false => rfl
  | true => simp only [foldH_colon h]
theorem part_colon : ∀ {a : List UInt8}, 58 ∈ a → ∃ w ∈ C44.cuts a, 58 ∈ w
  | [], h => by cases h
  | b :: r, h => by
    unfold C44.cuts
    cases hb : b == 44 with
    | true =>
      have hr : 58 ∈ r := by
        rcases List.mem_cons.1 h with e | e
        · rw [← e] at hb; cases hb
        · exact e
      obtain ⟨w, h1, h2⟩ := part_colon hr
      exact ⟨w, List.mem_cons_of_mem _ h1, h2⟩
    | false =>
      cases hc : C44.cuts r with
      | nil => exact absurd hc (fun e => by have := C44.cuts_pos r; rw [e] at this; simp at this)
      | cons c cs =>
        rcases List.mem_cons.1 h with e | e
        · exact ⟨b :: c, List.mem_cons_self .., by rw [e]; exact List.mem_cons_self ..⟩
        · obtain ⟨w, h1, h2⟩ := part_colon e
          rw [hc] at h1
          rcases List.mem_cons.1 h1 with rfl | h1
          · exact ⟨_, List.mem_cons_self .., List.mem_cons_of_mem _ h2⟩
          · exact ⟨w, List.mem_cons_of_mem _ h1, h2⟩
theorem readL_bad : ∀ {ws : List (List UInt8)} {w : List UInt8}, w ∈ ws → wordP w = none → readL ws = none
  | [], _, h, _ => by cases h
  | v :: r, w, h, hw => by
    unfold readL
    rcases List.mem_cons.1 h with e | e
    · rw [← e, hw]
    · cases wordP v with
      | none => rfl
      | some x => simp only [readL_bad e hw, Option.map_none]
theorem numsR_colon {a : List UInt8} (h : 58 ∈ a) : numsR a = none := by
  unfold numsR
  have hne : (a == [110, 111, 110, 101]) = false := by
    rw [beq_eq_false_iff_ne]
    intro e
    rw [e] at h
    simp at h
  rw [hne]
  cases decide ((C44.cuts a).length ≤ 256) with
  | false => rfl
  | true =>
    obtain ⟨w, h1, h2⟩ := part_colon h
    exact readL_bad h1 (wordP_colon h2)

def entOf (n : List UInt8) (xs : List Nat) : Entry := ⟨n, xs.getD 0 default, ⟨xs.getD 1 default, xs.getD 2 default, xs.getD 3 default, xs.getD 4 default, xs.getD 5 default, xs.getD 6 default⟩⟩
/-- An entry of a text. -/
def entR (t : List UInt8) : Option Entry := match decide ((C58.cuts t).length = 2) with
  | false => none
  | true => match numsR ((C58.cuts t).getD 1 default) with
    | none => none
    | some xs => match decide (xs.length = 7) with
      | false => none
      | true => some (entOf ((C58.cuts t).getD 0 default) xs)

theorem len7 {xs : List Nat} (h : xs.length = 7) : ∃ a b c d e f g, xs = [a, b, c, d, e, f, g] := by
  match xs, h with
  | [a, b, c, d, e, f, g], _ => exact ⟨a, b, c, d, e, f, g, rfl⟩

theorem from_spec (a b c d e f g : Nat) : spec_l08From_need (List.take (List.length [a, b, c, d, e, f, g] - 1) (List.drop 1 [a, b, c, d, e, f, g])) = true ∧ spec_l08From (List.take (List.length [a, b, c, d, e, f, g] - 1) (List.drop 1 [a, b, c, d, e, f, g])) = ⟨b, c, d, e, f, g⟩ := ⟨rfl, rfl⟩
theorem from_impl (a b c d e f g : Nat) : impl_orbitFrom_need (List.take (List.length [a, b, c, d, e, f, g] - 1) (List.drop 1 [a, b, c, d, e, f, g])) = true ∧ impl_orbitFrom (List.take (List.length [a, b, c, d, e, f, g] - 1) (List.drop 1 [a, b, c, d, e, f, g])) = ⟨b, c, d, e, f, g⟩ := ⟨rfl, rfl⟩

theorem ent_spec_round (ws : List (List UInt8)) (i : Nat) (xs : List Entry) (hi : i < ws.length) (hl : ws.length ≤ 2 ^ 30) (hx : xs.length = i) (hw : (ws.getD i default).length ≤ 2 ^ 30) :
    ∃ fl, (spec_l08ReadEntries_loop0_step ws (((i : Nat) : Int), xs)).get = some ((match entR (ws.getD i default) with
      | none => .inr (.inl ())
      | some b => .inl (((i + 1 : Nat) : Int), xs ++ [b])), fl) := by
  generalize hT : ws.getD i default = t at hw
  obtain ⟨c1, c2⟩ := C58.cut_eq t (by omega)
  have hn := nat_next hi (by omega)
  have hb : (((List.length (C58.cuts t) : Nat) : Int) != 2) = !decide ((C58.cuts t).length = 2) := bne_len _ 2
  unfold entR spec_l08ReadEntries_loop0_step
  cases hd : decide ((C58.cuts t).length = 2) with
  | false =>
    rw [hd] at hb
    exact ⟨[], by simp only [DT.get, nat_dec hi, nat_ge, Bool.and_self, Int.toNat_natCast, decide_eq_true hi, hT, c1, c2, hb, Bool.not_false]⟩
  | true =>
    rw [hd] at hb
    have hl2 := of_decide_eq_true hd
    have i0 : decide ((0 : Int) < ((List.length (C58.cuts t) : Nat) : Int)) = true := in_of (k := 0) (by omega)
    have i1 : decide ((1 : Int) < ((List.length (C58.cuts t) : Nat) : Int)) = true := in_of (k := 1) (by omega)
    have j0 : decide (0 < List.length (C58.cuts t)) = true := decide_eq_true (by omega)
    have j1 : decide (1 < List.length (C58.cuts t)) = true := decide_eq_true (by omega)
    have k0 : decide (0 ≤ 0) = true := rfl
    have k1 : decide (0 ≤ 1) = true := rfl
    have m1 : ((C58.cuts t).getD 1 default).length ≤ 2 ^ 30 := Nat.le_trans (C58.part_len t (getD_in (by omega))) hw
    obtain ⟨n1, n2⟩ := nums_spec _ m1
    unfold outR at n2
    have cn : ∀ b : Entry, (decide ((List.length xs + List.length [b]) * 48 ≤ 140737488355328) && decide (List.length xs + List.length [b] ≤ 9223372036854775807)) = true := fun b => by
      rw [Bool.and_eq_true, decide_eq_true_eq, decide_eq_true_eq, List.length_singleton]; omega
    cases hr : numsR ((C58.cuts t).getD 1 default) with
    | none =>
      rw [hr] at n2
      simp only at n2
      exact ⟨[], by simp only [DT.get, nat_dec hi, nat_ge, Bool.and_self, Int.toNat_natCast, decide_eq_true hi, hT, c1, c2, hb, Bool.not_true, i1, j1, k1, n1, n2, isL]⟩
    | some ys =>
      rw [hr] at n2
      simp only at n2
      have hb7 : (((List.length ys : Nat) : Int) != 7) = !decide (ys.length = 7) := bne_len _ 7
      cases h7 : decide (ys.length = 7) with
      | false =>
        rw [h7] at hb7
        exact ⟨[], by simp only [DT.get, nat_dec hi, nat_ge, Bool.and_self, Int.toNat_natCast, decide_eq_true hi, hT, c1, c2, hb, Bool.not_true, i1, j1, k1, n1, n2, isL, leftD, hb7, h7, Bool.not_false]⟩
      | true =>
        rw [h7] at hb7
        obtain ⟨a, b, c, d, e, f, g, rfl⟩ := len7 (of_decide_eq_true h7)
        obtain ⟨o1, o2⟩ := from_spec a b c d e f g
        have q0 : decide ((0 : Int) < ((List.length [a, b, c, d, e, f, g] : Nat) : Int)) = true := rfl
        have q1 : decide (0 < List.length [a, b, c, d, e, f, g]) = true := rfl
        have q2 : decide ((1 : Int) ≤ ((List.length [a, b, c, d, e, f, g] : Nat) : Int)) = true := rfl
        have q3 : decide (1 + (List.length [a, b, c, d, e, f, g] - 1) ≤ List.length [a, b, c, d, e, f, g]) = true := rfl
        exact ⟨_, by simp only [DT.get, nat_dec hi, nat_ge, Bool.and_self, Int.toNat_natCast, decide_eq_true hi, hT, c1, c2, hb, Bool.not_true, i0, i1, j0, j1, k0, k1, n1, n2, isL, leftD, hb7, h7, q0, q1, q2, q3, o1, o2, cn, hn]; rfl⟩

/-- What is between the first colon and the end. -/
theorem ent_impl_round (ws : List (List UInt8)) (i : Nat) (xs : List Entry) (hi : i < ws.length) (hl : ws.length ≤ 2 ^ 30) (hx : xs.length = i) (hw : (ws.getD i default).length ≤ 2 ^ 30) :
    ∃ fl, (impl_ReadEntries_loop0_step (((ws.length : Nat) : Int), ws) (((i : Nat) : Int), xs)).get = some ((match entR (ws.getD i default) with
      | none => .inr (.inl ())
      | some b => .inl (((i + 1 : Nat) : Int), xs ++ [b])), fl) := by
  generalize hT : ws.getD i default = t at hw
  have hn := nat_next hi (by omega)
  by_cases hc : 58 ∈ t
  · obtain ⟨m, hm, hml, hcut⟩ := C58.index_cut hc
    obtain ⟨s1, s2⟩ := cutAt58_some hm hml (by omega)
    have m1 : (t.drop (m + 1)).length ≤ 2 ^ 30 := by rw [List.length_drop]; omega
    obtain ⟨n1, n2⟩ := nums_impl _ m1
    have hone : 58 ∉ t.drop (m + 1) → C58.cuts t = [t.take m, t.drop (m + 1)] := fun h => by rw [hcut, C58.cuts_pure h]
    have hER : entR t = match numsR (t.drop (m + 1)) with
        | none => none
        | some xs => match decide (xs.length = 7) with
          | false => none
          | true => some (entOf (t.take m) xs) := by
      by_cases h58 : 58 ∈ t.drop (m + 1)
      · rw [numsR_colon h58]
        have h2 : decide ((C58.cuts t).length = 2) = false := by
          have := C58.cuts_len (t.drop (m + 1))
          have h3 := List.count_pos_iff.2 h58
          rw [hcut]
          exact decide_eq_false (by rw [List.length_cons]; omega)
        unfold entR
        rw [h2]
      · unfold entR
        rw [hone h58]
        rfl
    rw [hER]
    unfold impl_ReadEntries_loop0_step
    unfold outR at n2
    have cn : ∀ b : Entry, (decide ((List.length xs + List.length [b]) * 48 ≤ 140737488355328) && decide (List.length xs + List.length [b] ≤ 9223372036854775807)) = true := fun b => by
      rw [Bool.and_eq_true, decide_eq_true_eq, decide_eq_true_eq, List.length_singleton]; omega
    cases hr : numsR (t.drop (m + 1)) with
    | none =>
      rw [hr] at n2
      simp only at n2
      exact ⟨[], by simp only [DT.get, nat_dec hi, nat_ge, Bool.and_self, Int.toNat_natCast, decide_eq_true hi, hT, s1, s2, Bool.not_true, n1, n2, isL]⟩
    | some ys =>
      rw [hr] at n2
      simp only at n2
      have hb7 : (((List.length ys : Nat) : Int) != 7) = !decide (ys.length = 7) := bne_len _ 7
      cases h7 : decide (ys.length = 7) with
      | false =>
        rw [h7] at hb7
        exact ⟨[], by simp only [DT.get, nat_dec hi, nat_ge, Bool.and_self, Int.toNat_natCast, decide_eq_true hi, hT, s1, s2, Bool.not_true, n1, n2, isL, leftD, hb7, h7, Bool.not_false]⟩
      | true =>
        rw [h7] at hb7
        obtain ⟨a, b, c, d, e, f, g, rfl⟩ := len7 (of_decide_eq_true h7)
        obtain ⟨o1, o2⟩ := from_impl a b c d e f g
        have k0 : decide (0 ≤ 0) = true := rfl
        have k1 : decide (0 ≤ 1) = true := rfl
        have q0 : decide ((0 : Int) < ((List.length [a, b, c, d, e, f, g] : Nat) : Int)) = true := rfl
        have q1 : decide (0 < List.length [a, b, c, d, e, f, g]) = true := rfl
        have q2 : decide ((1 : Int) ≤ ((List.length [a, b, c, d, e, f, g] : Nat) : Int)) = true := rfl
        have q3 : decide (1 + (List.length [a, b, c, d, e, f, g] - 1) ≤ List.length [a, b, c, d, e, f, g]) = true := rfl
        exact ⟨_, by simp only [DT.get, nat_dec hi, nat_ge, Bool.and_self, Int.toNat_natCast, decide_eq_true hi, hT, s1, s2, Bool.not_true, k0, k1, n1, n2, isL, leftD, hb7, h7, q0, q1, q2, q3, o1, o2, cn, hn]; rfl⟩
  · obtain ⟨s1, s2⟩ := cutAt58_none (index_none 58 hc)
    obtain ⟨n1, n2⟩ := nums_impl [] (by simp)
    have hr : numsR [] = none := rfl
    unfold outR at n2
    rw [hr] at n2
    simp only at n2
    have hER : entR t = none := by
      unfold entR
      rw [C58.cuts_pure hc]
      rfl
    rw [hER]
    unfold impl_ReadEntries_loop0_step
    exact ⟨[], by simp only [DT.get, nat_dec hi, nat_ge, Bool.and_self, Int.toNat_natCast, decide_eq_true hi, hT, s1, s2, Bool.not_false, n1, n2, isL]⟩

theorem etexts_impl (ws : List (List UInt8)) (hl : ws.length ≤ 2 ^ 30) (hw : ∀ w ∈ ws, w.length ≤ 2 ^ 30) : impl_ReadEntries_loop0_ends (((ws.length : Nat) : Int), ws) (0, []) = true ∧ impl_ReadEntries_loop0 (((ws.length : Nat) : Int), ws) (0, []) = outG entR ws := by
  refine loop_post (step := impl_ReadEntries_loop0_step (((ws.length : Nat) : Int), ws)) (fun s => ∃ i : Nat, s.1 = (i : Int) ∧ i ≤ ws.length ∧ s.2.length = i ∧ readG entR ws = (readG entR (ws.drop i)).map (s.2 ++ ·)) (fun s => ws.length - s.1.toNat) (fun r => r = outG entR ws) ?_ (0, []) ⟨0, rfl, Nat.zero_le _, rfl, by simp⟩
  rintro ⟨s, xs⟩ ⟨i, hs, hi, hx, hr⟩
  simp only at hs hx hr
  subst hs
  rcases Nat.lt_or_ge i ws.length with hlt | hge
  · obtain ⟨fl, hk⟩ := ent_impl_round ws i xs hlt hl hx (hw _ (getD_in (d := default) hlt))
    rw [readG_drop entR hlt] at hr
    cases hq : entR (ws.getD i default) with
    | none =>
      rw [hq] at hk hr
      exact ⟨_, fl, hk, by unfold outG; rw [hr]; rfl⟩
    | some x =>
      rw [hq] at hk hr
      refine ⟨_, fl, hk, ⟨i + 1, rfl, hlt, by simp [hx], by rw [hr]; exact map_appG⟩, ?_⟩
      show ws.length - ((i + 1 : Nat) : Int).toNat < ws.length - ((i : Nat) : Int).toNat
      rw [Int.toNat_natCast, Int.toNat_natCast]
      omega
  · have he : i = ws.length := Nat.le_antisymm hi hge
    refine ⟨.inr (.inr xs), [0], ?_, ?_⟩
    · unfold impl_ReadEntries_loop0_step
      simp only [DT.get, he, nat_not]
    · unfold outG
      rw [hr, he, List.drop_length]
      simp [readG]

theorem etexts_spec (ws : List (List UInt8)) (hl : ws.length ≤ 2 ^ 30) (hw : ∀ w ∈ ws, w.length ≤ 2 ^ 30) : spec_l08ReadEntries_loop0_ends ws (0, []) = true ∧ spec_l08ReadEntries_loop0 ws (0, []) = outG entR ws := by
  refine loop_post (step := spec_l08ReadEntries_loop0_step ws) (fun s => ∃ i : Nat, s.1 = (i : Int) ∧ i ≤ ws.length ∧ s.2.length = i ∧ readG entR ws = (readG entR (ws.drop i)).map (s.2 ++ ·)) (fun s => ws.length - s.1.toNat) (fun r => r = outG entR ws) ?_ (0, []) ⟨0, rfl, Nat.zero_le _, rfl, by simp⟩
  rintro ⟨s, xs⟩ ⟨i, hs, hi, hx, hr⟩
  simp only at hs hx hr
  subst hs
  rcases Nat.lt_or_ge i ws.length with hlt | hge
  · obtain ⟨fl, hk⟩ := ent_spec_round ws i xs hlt hl hx (hw _ (getD_in (d := default) hlt))
    rw [readG_drop entR hlt] at hr
    cases hq : entR (ws.getD i default) with
    | none =>
      rw [hq] at hk hr
      exact ⟨_, fl, hk, by unfold outG; rw [hr]; rfl⟩
    | some x =>
      rw [hq] at hk hr
      refine ⟨_, fl, hk, ⟨i + 1, rfl, hlt, by simp [hx], by rw [hr]; exact map_appG⟩, ?_⟩
      show ws.length - ((i + 1 : Nat) : Int).toNat < ws.length - ((i : Nat) : Int).toNat
      rw [Int.toNat_natCast, Int.toNat_natCast]
      omega
  · have he : i = ws.length := Nat.le_antisymm hi hge
    refine ⟨.inr (.inr xs), [0], ?_, ?_⟩
    · unfold spec_l08ReadEntries_loop0_step
      simp only [DT.get, he, nat_not]
    · unfold outG
      rw [hr, he, List.drop_length]
      simp [readG]

/-- The names are no longer than the texts. -/
theorem ent_name {t : List UInt8} {e : Entry} (h : entR t = some e) : e.Name.length ≤ t.length := by
  unfold entR at h
  split at h
  · cases h
  · rename_i h2
    split at h
    · cases h
    · split at h
      · cases h
      · cases h
        exact C58.part_len t (getD_in (by have := of_decide_eq_true h2; omega))
theorem names_le : ∀ {ws : List (List UInt8)} {es : List Entry} {B : Nat}, readG entR ws = some es → (∀ w ∈ ws, w.length ≤ B) → ∀ e ∈ es, e.Name.length ≤ B
  | [], es, B, h, _ => by simp only [readG, Option.some.injEq] at h; subst h; simp
  | w :: r, es, B, h, hw => by
    unfold readG at h
    cases hq : entR w with
    | none => rw [hq] at h; cases h
    | some x =>
      rw [hq] at h
      simp only at h
      cases hr : readG entR r with
      | none => rw [hr] at h; cases h
      | some ys =>
        rw [hr] at h
        simp only [Option.map_some, Option.some.injEq] at h
        subst h
        intro e he
        rcases List.mem_cons.1 he with rfl | he
        · exact Nat.le_trans (ent_name hq) (hw w (List.mem_cons_self ..))
        · exact names_le hr (fun v hv => hw v (List.mem_cons_of_mem _ hv)) e he

noncomputable def entriesR (a : List UInt8) : Option (List Entry) := match a == [110, 111, 110, 101] with
  | true => some []
  | false => match readG entR (C47.cuts a) with
    | none => none
    | some l => match okE l with
      | false => none
      | true => some l

theorem entries_ok {a : List UInt8} {l : List Entry} (h : entriesR a = some l) : l.length ≤ 16 := by
  unfold entriesR at h
  split at h
  · cases h; simp
  · split at h
    · cases h
    · split at h
      · cases h
      · rename_i hk
        cases h
        unfold okE at hk
        rw [Bool.and_eq_true, decide_eq_true_eq] at hk
        omega

theorem readEntries_impl (a : List UInt8) (ha : a.length ≤ 2 ^ 20) : impl_ReadEntries_need a = true ∧ impl_ReadEntries a = match entriesR a with
    | none => .inl ()
    | some l => .inr l := by
  obtain ⟨s1, s2⟩ := C47.split_eq a (by omega)
  have hcl := C47.cuts_le a
  have hw : ∀ w ∈ C47.cuts a, w.length ≤ 2 ^ 30 := fun w h => by have := C47.part_len a h; omega
  obtain ⟨t1, t2⟩ := etexts_impl (C47.cuts a) (by omega) hw
  have hu : impl_unslashed_need a = true ∧ impl_unslashed a = bif a == [110, 111, 110, 101] then .inl () else .inr (C47.cuts a) := by
    have key : (impl_unslashed_tree a).get = some (bif a == [110, 111, 110, 101] then .inl () else .inr (C47.cuts a)) := by
      unfold impl_unslashed_tree
      cases hq : (a == [110, 111, 110, 101]) <;> simp only [DT.get, hq, s1, s2, cond_true, cond_false]
    exact DT.of_get key
  obtain ⟨u1, u2⟩ := hu
  have key : (impl_ReadEntries_tree a).get = some (match entriesR a with
      | none => .inl ()
      | some l => .inr l) := by
    unfold impl_ReadEntries_tree entriesR
    cases hq : (a == [110, 111, 110, 101]) with
    | true =>
      rw [hq] at u2
      simp only [cond_true] at u2
      obtain ⟨g1, g3⟩ := AreEntries_eq [] (by simp) (fun e h => by cases h)
      have g3 : impl_AreEntries [] = true := g3
      simp only [DT.get, u1, u2, isL, g1, g3, Bool.not_true]
    | false =>
      rw [hq] at u2
      simp only [cond_false] at u2
      unfold outG at t2
      cases hr : readG entR (C47.cuts a) with
      | none =>
        rw [hr] at t2
        simp only at t2
        simp only [DT.get, u1, u2, isL, rightD, t1, t2]
      | some l =>
        rw [hr] at t2
        simp only at t2
        obtain ⟨g1, g3⟩ := AreEntries_eq l (by rw [readG_len entR hr]; omega) (fun e h => Nat.le_trans (names_le hr hw e h) (by decide))
        cases hk : okE l with
        | false => rw [hk] at g3; simp only [DT.get, u1, u2, isL, rightD, t1, t2, g1, g3, hk, Bool.not_false]
        | true => rw [hk] at g3; simp only [DT.get, u1, u2, isL, rightD, t1, t2, g1, g3, hk, Bool.not_true]
  exact DT.of_get key

theorem readEntries_spec (a : List UInt8) (ha : a.length ≤ 2 ^ 20) : spec_ReadEntries_need a = true ∧ spec_ReadEntries a = match entriesR a with
    | none => .inr ()
    | some l => .inl l := by
  obtain ⟨s1, s2⟩ := C47.cut_eq a (by omega)
  have hcl := C47.cuts_le a
  have hw : ∀ w ∈ C47.cuts a, w.length ≤ 2 ^ 30 := fun w h => by have := C47.part_len a h; omega
  obtain ⟨t1, t2⟩ := etexts_spec (C47.cuts a) (by omega) hw
  have key : (spec_l08ReadEntries_tree a).get = some (match entriesR a with
      | none => .inr ()
      | some l => .inl l) := by
    unfold spec_l08ReadEntries_tree entriesR
    cases hq : (a == [110, 111, 110, 101]) with
    | true => simp only [DT.get]
    | false =>
      unfold outG at t2
      cases hr : readG entR (C47.cuts a) with
      | none =>
        rw [hr] at t2
        simp only at t2
        simp only [DT.get, s1, s2, t1, t2, isL]
      | some l =>
        rw [hr] at t2
        simp only at t2
        obtain ⟨g1, g3⟩ := l07List_eq l (by rw [readG_len entR hr]; omega) (fun e h => Nat.le_trans (names_le hr hw e h) (by decide))
        cases hk : okE l with
        | false => rw [hk] at g3; simp only [DT.get, s1, s2, t1, t2, isL, rightD, g1, g3, hk, Bool.not_false]
        | true => rw [hk] at g3; simp only [DT.get, s1, s2, t1, t2, isL, rightD, g1, g3, hk, Bool.not_true]
  obtain ⟨k1, k2⟩ := DT.of_get key
  have k1 : spec_l08ReadEntries_need a = true := k1
  have k2 : spec_l08ReadEntries a = _ := k2
  have key2 : (spec_ReadEntries_tree a).get = some (match entriesR a with
      | none => .inr ()
      | some l => .inl l) := by
    unfold spec_ReadEntries_tree
    cases hb : entriesR a with
    | none => rw [hb] at k2; simp only at k2; simp only [DT.get, k1, k2, isL]
    | some l => rw [hb] at k2; simp only at k2; simp only [DT.get, k1, k2, isL, leftD]
  exact DT.of_get key2

theorem E_marks (l : List Entry) (hl : l.length ≤ 2 ^ 40) : laws_eqEntryS_need l l = true ∧ laws_eqEntryS l l = true ∧ laws_markEntryS_need l 1 = true ∧ (laws_markEntryS l 1).1 = 1 + 8 * (l.length : Int) ∧ laws_heldEntryS_need (laws_markEntryS l 1).2 1 = true ∧ laws_heldEntryS (laws_markEntryS l 1).2 1 = 1 + 8 * (l.length : Int) := by
  obtain ⟨e1, e2⟩ := eqEntryS_self l (by omega)
  obtain ⟨k1, k2, k3, k4⟩ := E_mark_all l hl
  obtain ⟨d1, d2⟩ := E_held_all (laws_markEntryS l 1).2 (by omega) (fun j hj => k4 j (by omega))
  rw [k3] at d2
  exact ⟨e1, e2, k1, k2, d1, d2⟩

theorem plain4 (a : List UInt8) : laws_FnExactReadEntries_need a = true ∧ laws_FnExactReadEntries a = true := by
  have key : (laws_FnExactReadEntries_tree a).get = some true := by
    unfold laws_FnExactReadEntries_tree
    cases hs : decide (((List.length a : Nat) : Int) > 1048576) with
    | true => simp only [DT.get, hs]
    | false =>
      have ha : a.length ≤ 2 ^ 20 := by
        have := of_decide_eq_false hs
        omega
      obtain ⟨p1, p2⟩ := readEntries_impl a ha
      obtain ⟨q1, q2⟩ := readEntries_spec a ha
      cases hb : entriesR a with
      | none =>
        rw [hb] at p2 q2
        simp only at p2 q2
        obtain ⟨m1, m2, m3, m4, m5, m6⟩ := E_marks [] (by simp)
        have m4 : (laws_markEntryS [] 1).1 = 1 := m4
        have m6 : laws_heldEntryS (laws_markEntryS [] 1).2 1 = 1 := m6
        have hm : laws_markEntryS [] 1 = (1, []) := by
          have h2 := List.eq_nil_of_length_eq_zero ((E_mark_all [] (by simp)).2.2.1)
          exact Prod.ext m4 h2
        rw [hm] at m5 m6
        simp only at m5 m6
        simp only [DT.get, hs, p1, p2, q1, q2, isL, m1, m2, m3, hm, m5, m6, Bool.not_true, one_pos, one_ne]
      | some l =>
        rw [hb] at p2 q2
        simp only at p2 q2
        have hl := entries_ok hb
        obtain ⟨m1, m2, m3, m4, m5, m6⟩ := E_marks l (by omega)
        simp only [DT.get, hs, p1, p2, q1, q2, isL, leftD, rightD, m1, m2, m3, m4, m5, m6, Bool.not_true, E_len_pos, E_len_ne]
  exact DT.of_get key

end Go.Proofs.YtcipkfndnkmjlaaGreatDoor
