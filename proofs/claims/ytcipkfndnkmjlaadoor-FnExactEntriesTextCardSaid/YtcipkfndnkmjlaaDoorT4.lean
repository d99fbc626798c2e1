/- Plain law of the texts, part 4: entries that are valid; their texts: the program's and the reference's. -/
import Derived.Test.YtcipkfndnkmjlaaDoorT3
namespace Go.Proofs.YtcipkfndnkmjlaaDoor
set_option linter.unusedVariables false
set_option linter.unusedSimpArgs false

theorem eqOrbit_self (o : Orbit) : laws_eqOrbit_need o o = true ∧ laws_eqOrbit o o = true := by
  unfold laws_eqOrbit_need laws_eqOrbit laws_eqOrbit_tree
  simp only [DT.ok, DT.val, fconvOk_up, sameFloat_self, Bool.not_true]
  exact ⟨trivial, trivial⟩

theorem eqEntry_self (e : Entry) : laws_eqEntry_need e e = true ∧ laws_eqEntry e e = true := by
  unfold laws_eqEntry_need laws_eqEntry laws_eqEntry_tree
  simp only [DT.ok, DT.val, fconvOk_up, sameFloat_self, (eqOrbit_self _).1, (eqOrbit_self _).2, beq_self_eq_true, Bool.not_true]
  exact ⟨trivial, trivial⟩

theorem eqEntryS_self (l : List Entry) (hl : l.length ≤ 2 ^ 62) : laws_eqEntryS_need l l = true ∧ laws_eqEntryS l l = true := by
  obtain ⟨h1, h2⟩ := scan_loop (α := Unit) (β := Unit) (step := laws_eqEntryS_loop0_step (l, l)) l.length (fun _ => none) () (fun i hi => ⟨[], by
    unfold laws_eqEntryS_loop0_step
    simp only [DT.get, nat_dec hi, nat_ge, Bool.and_self, (eqEntry_self _).1, (eqEntry_self _).2, Bool.not_true, nat_next hi hl]⟩) ⟨[], by
    unfold laws_eqEntryS_loop0_step
    simp only [DT.get, nat_not]⟩
  have hf : firstOf (fun _ => (none : Option Unit)) l.length = none := by
    unfold firstOf
    rw [List.findSome?_eq_none_iff]
    exact fun _ _ => rfl
  rw [hf] at h2
  have h1 : laws_eqEntryS_loop0_ends (l, l) 0 = true := h1
  have h2 : laws_eqEntryS_loop0 (l, l) 0 = .inr () := h2
  have hne : (((l.length : Nat) : Int) != ((l.length : Nat) : Int)) = false := by simp
  unfold laws_eqEntryS_need laws_eqEntryS laws_eqEntryS_tree
  simp only [DT.ok, DT.val, hne, h1, h2, isL]
  exact ⟨trivial, trivial⟩

theorem toEntryS_eq (l : List Entry) (hl : l.length ≤ 2 ^ 40) : laws_toEntryS_need l = true ∧ laws_toEntryS l = l := by
  have ht : ∀ b : Entry, laws_toEntry b = b := fun b => rfl
  obtain ⟨h1, h2⟩ := loop_post (step := laws_toEntryS_loop0_step l) (fun s => ∃ j : Nat, s.1 = (j : Int) ∧ j ≤ l.length ∧ s.2.length = l.length ∧ ∀ q, q < j → s.2.getD q default = l.getD q default) (fun s => l.length - s.1.toNat) (fun r => r = (List.range l.length).map fun q => l.getD q default) (by
    rintro ⟨a, o⟩ ⟨j, hj, hjl, ho, hq⟩
    simp only at hj ho hq
    subst hj
    rcases Nat.lt_or_ge j l.length with hlt | hge
    · have hm : l.length - ((j + 1 : Nat) : Int).toNat < l.length - ((j : Nat) : Int).toNat := by
        rw [Int.toNat_natCast, Int.toNat_natCast]
        omega
      have hw := nat_next hlt (by omega)
      have hlo : j < o.length := by omega
      refine ⟨.inl (((j + 1 : Nat) : Int), List.set o j (l.getD j default)), [0], ?_, ⟨j + 1, rfl, hlt, by rw [List.length_set, ho], fun q hq' => ?_⟩, hm⟩
      · unfold laws_toEntryS_loop0_step
        simp only [DT.get, nat_dec hlt, nat_dec hlo, nat_ge, Bool.and_self, Int.toNat_natCast, decide_eq_true hlo, hw, ht]
      · rcases Nat.lt_or_ge q j with g | g
        · rw [getD_set_ne (by omega)]
          exact hq q g
        · rw [show q = j from by omega, getD_set hlo]
    · have he : j = l.length := Nat.le_antisymm hjl hge
      refine ⟨.inr o, [0], ?_, ?_⟩
      · unfold laws_toEntryS_loop0_step
        simp only [DT.get, he, nat_not]
      · exact eq_of_getD ho (fun q hq' => hq q (by omega))) (0, List.replicate l.length (⟨[], 0, ⟨0, 0, 0, 0, 0, 0⟩⟩ : Entry)) ⟨0, rfl, Nat.zero_le _, by simp, fun q hq => absurd hq (Nat.not_lt_zero q)⟩
  have h1 : laws_toEntryS_loop0_ends l (0, List.replicate l.length (⟨[], 0, ⟨0, 0, 0, 0, 0, 0⟩⟩ : Entry)) = true := h1
  have h2 : laws_toEntryS_loop0 l (0, List.replicate l.length (⟨[], 0, ⟨0, 0, 0, 0, 0, 0⟩⟩ : Entry)) = (List.range l.length).map fun q => l.getD q default := h2
  have he : ((List.range l.length).map fun q => l.getD q default) = l := (eq_of_getD rfl (fun j hj => rfl)).symm
  have c1 : decide ((0 : Int) ≤ ((l.length : Nat) : Int)) = true := decide_eq_true (by omega)
  have c2 : decide (((l.length : Nat) : Int) ≤ ((l.length : Nat) : Int)) = true := decide_eq_true (by omega)
  have c3 : decide (48 * ((l.length : Nat) : Int) ≤ 281474976710656) = true := decide_eq_true (by omega)
  have c4 : decide (((l.length : Nat) : Int) ≤ 9223372036854775807) = true := decide_eq_true (by omega)
  unfold laws_toEntryS_need laws_toEntryS laws_toEntryS_tree
  simp only [DT.ok, DT.val, c1, c2, c3, c4, Bool.and_self, Int.toNat_natCast, h1, h2, he]
  exact ⟨trivial, trivial⟩


theorem szEntry_eq (e : Entry) (a : Int) (h : e.Name.length ≤ maxLen) (h0 : 0 ≤ a) (h1 : a ≤ 2 ^ 20) : laws_szEntry e a = if a < e.Name.length then -1 else a - e.Name.length := by
  unfold maxLen at h
  have hw : IntKind.wrap .i64 (a - ((List.length e.Name : Nat) : Int)) = a - ((List.length e.Name : Nat) : Int) := wrap_small (by omega) (by omega)
  unfold laws_szEntry laws_szEntry_tree
  by_cases h : a < e.Name.length
  · have hd : decide (a - ((List.length e.Name : Nat) : Int) < 0) = true := decide_eq_true (by omega)
    simp only [hw, hd, DT.val]
    rw [if_pos h]
  · have hd : decide (a - ((List.length e.Name : Nat) : Int) < 0) = false := decide_eq_false (by omega)
    simp only [hw, hd, DT.val]
    rw [if_neg h]

theorem getD_mem {α : Type} {l : List α} {d : α} {i : Nat} (h : i < l.length) : l.getD i d ∈ l := by
  rw [List.getD_eq_getElem?_getD, List.getElem?_eq_getElem h]
  exact List.getElem_mem h

theorem szE (l : List Entry) (hl : l.length ≤ maxLen) (hf : ∀ e ∈ l, e.Name.length ≤ maxLen) : laws_szEntryS_need l 1048576 = true ∧ (decide (laws_szEntryS l 1048576 < 0) = false → l.length ≤ 2 ^ 20 ∧ ∀ i, i < l.length → (l.getD i default).Name.length ≤ 2 ^ 20) := by
  have hl0 := hl
  unfold maxLen at hl
  have hw : IntKind.wrap .i64 (1048576 - ((l.length : Nat) : Int)) = 1048576 - ((l.length : Nat) : Int) := wrap_small (by omega) (by omega)
  by_cases h : l.length ≤ 1048576
  · have h0 : decide (1048576 - ((l.length : Nat) : Int) < 0) = false := decide_eq_false (by omega)
    have hloop := loop_post (step := laws_szEntryS_loop0_step l) (fun s => ∃ i : Nat, s.2 = (i : Int) ∧ i ≤ l.length ∧ 0 ≤ s.1 ∧ s.1 ≤ 2 ^ 20 ∧ ∀ j, j < i → (l.getD j default).Name.length ≤ 2 ^ 20) (fun s => l.length - s.2.toNat) (fun r => match r with
      | .inl v => v = -1
      | .inr v => 0 ≤ v ∧ ∀ j, j < l.length → (l.getD j default).Name.length ≤ 2 ^ 20) (by
      rintro ⟨a, s⟩ ⟨i, hs, hi, ha0, ha1, hj⟩
      simp only at hs ha0 ha1
      subst hs
      rcases Nat.lt_or_ge i l.length with hlt | hge
      · have e1 : (⟨(l.getD i default).Name, (l.getD i default).Mass, ⟨(l.getD i default).Orb.Long, (l.getD i default).Orb.Round, (l.getD i default).Orb.Tilt, (l.getD i default).Orb.Node, (l.getD i default).Orb.Peri, (l.getD i default).Orb.Phase⟩⟩ : Entry) = l.getD i default := rfl
        have hz := szEntry_eq (l.getD i default) a (hf _ (getD_mem hlt)) ha0 ha1
        by_cases hq : a < (l.getD i default).Name.length
        · rw [if_pos hq] at hz
          refine ⟨.inr (.inl (-1)), [], ?_, rfl⟩
          unfold laws_szEntryS_loop0_step
          have hd : decide ((-1 : Int) < 0) = true := rfl
          simp only [DT.get, nat_dec hlt, nat_ge, Bool.and_self, Int.toNat_natCast, e1, hz, hd]
        · rw [if_neg hq] at hz
          refine ⟨.inl (a - (l.getD i default).Name.length, ((i + 1 : Nat) : Int)), [], ?_, ⟨i + 1, rfl, hlt, by show 0 ≤ a - _; omega, by show a - _ ≤ 2 ^ 20; omega, fun j hj' => ?_⟩, ?_⟩
          · unfold laws_szEntryS_loop0_step
            have hd : decide (a - ((List.length (l.getD i default).Name : Nat) : Int) < 0) = false := decide_eq_false (by omega)
            simp only [DT.get, nat_dec hlt, nat_ge, Bool.and_self, Int.toNat_natCast, e1, hz, hd, nat_next hlt (by omega)]
          · rcases Nat.lt_or_ge j i with g | g
            · exact hj j g
            · rw [show j = i from by omega]; omega
          · show l.length - ((i + 1 : Nat) : Int).toNat < l.length - ((i : Nat) : Int).toNat
            rw [Int.toNat_natCast, Int.toNat_natCast]
            omega
      · have he : i = l.length := Nat.le_antisymm hi hge
        refine ⟨.inr (.inr a), [], ?_, ha0, fun j hj' => hj j (by omega)⟩
        unfold laws_szEntryS_loop0_step
        simp only [DT.get, he, nat_not]) (1048576 - ((l.length : Nat) : Int), 0) ⟨0, rfl, Nat.zero_le _, by show 0 ≤ 1048576 - _; omega, by show 1048576 - _ ≤ 2 ^ 20; omega, fun j hj => absurd hj (Nat.not_lt_zero j)⟩
    have l1 : laws_szEntryS_loop0_ends l (1048576 - ((l.length : Nat) : Int), 0) = true := hloop.1
    have l2 : match laws_szEntryS_loop0 l (1048576 - ((l.length : Nat) : Int), 0) with
      | .inl v => v = -1
      | .inr v => 0 ≤ v ∧ ∀ j, j < l.length → (l.getD j default).Name.length ≤ 2 ^ 20 := hloop.2
    cases hv : laws_szEntryS_loop0 l (1048576 - ((l.length : Nat) : Int), 0) with
    | inl v =>
      rw [hv] at l2
      have l2 : v = -1 := l2
      subst l2
      have key : (laws_szEntryS_tree l 1048576).get = some (-1) := by
        unfold laws_szEntryS_tree
        simp only [DT.get, hw, h0, l1, hv, isL, leftD]
      obtain ⟨k1, k2⟩ := DT.of_get key
      refine ⟨k1, fun hd => ?_⟩
      have k2 : laws_szEntryS l 1048576 = -1 := k2
      rw [k2] at hd
      cases hd
    | inr v =>
      rw [hv] at l2
      have key : (laws_szEntryS_tree l 1048576).get = some v := by
        unfold laws_szEntryS_tree
        simp only [DT.get, hw, h0, l1, hv, isL, rightD]
      exact ⟨(DT.of_get key).1, fun _ => ⟨h, l2.2⟩⟩
  · have h0 : decide (1048576 - ((l.length : Nat) : Int) < 0) = true := decide_eq_true (by omega)
    have key : (laws_szEntryS_tree l 1048576).get = some (-1) := by
      unfold laws_szEntryS_tree
      simp only [DT.get, hw, h0]
    obtain ⟨k1, k2⟩ := DT.of_get key
    refine ⟨k1, fun hd => ?_⟩
    have k2 : laws_szEntryS l 1048576 = -1 := k2
    rw [k2] at hd
    cases hd

/-! ## That lists are entries -/

noncomputable def goodE (l : List Entry) (i : Nat) : Bool := spec_l07Entry (l.getD i default) && (decide (i = 0) || Op.bytesLess (l.getD (i - 1) default).Name (l.getD i default).Name)
noncomputable def firstE (l : List Entry) : Option Unit := firstOf (fun i => bif goodE l i then none else some ()) l.length
/-- Entries. -/
noncomputable def okE (l : List Entry) : Bool := decide (((l.length : Nat) : Int) ≤ 16) && (firstE l).isNone

theorem entries_round (l : List Entry) (hl : l.length ≤ 2 ^ 40) (hf : ∀ e ∈ l, e.Name.length ≤ 2 ^ 62) (i : Nat) (hi : i < l.length) : (impl_AreEntries_loop0_step (l, l, ((l.length : Nat) : Int)) i).get = some ((bif goodE l i then .inl ((i + 1 : Nat) : Int) else .inr (.inl ())), []) ∧
    (decide (((l.length : Nat) : Int) ≤ 16) = true → (spec_l07List_loop0_step l i).get = some ((bif goodE l i then .inl ((i + 1 : Nat) : Int) else .inr (.inl ())), [])) := by
  have e1 : (⟨(l.getD i default).Name, (l.getD i default).Mass, ⟨(l.getD i default).Orb.Long, (l.getD i default).Orb.Round, (l.getD i default).Orb.Tilt, (l.getD i default).Orb.Node, (l.getD i default).Orb.Peri, (l.getD i default).Orb.Phase⟩⟩ : Entry) = l.getD i default := rfl
  obtain ⟨s1, s2, s3⟩ := entry_same (l.getD i default) (hf _ (getD_mem hi))
  have hn := nat_next hi (by omega)
  unfold impl_AreEntries_loop0_step spec_l07List_loop0_step goodE
  cases hv : spec_l07Entry (l.getD i default) with
  | false =>
    constructor
    · simp only [DT.get, nat_dec hi, nat_ge, Bool.and_self, Int.toNat_natCast, e1, s1, s3, hv, Bool.not_false, Bool.false_and, cond_false]
    · intro h16
      simp only [DT.get, nat_dec hi, nat_ge, Bool.and_self, Int.toNat_natCast, e1, h16, s2, hv, Bool.not_false, Bool.false_and, cond_false]
  | true =>
    rcases Nat.eq_zero_or_pos i with hz | hz
    · subst hz
      have d0 : decide (((0 : Nat) : Int) > 0) = false := rfl
      constructor
      · simp only [DT.get, nat_dec hi, nat_ge, Bool.and_self, Int.toNat_natCast, e1, s1, s3, hv, Bool.not_true, d0, hn, decide_true, Bool.true_or, Bool.true_and, cond_true]
      · intro h16
        simp only [DT.get, nat_dec hi, nat_ge, Bool.and_self, Int.toNat_natCast, e1, h16, s2, hv, Bool.not_true, d0, hn, decide_true, Bool.true_or, Bool.true_and, cond_true]
    · have d0 : decide (((i : Nat) : Int) > 0) = true := decide_eq_true (by omega)
      have hw : IntKind.wrap .i64 (((i : Nat) : Int) - 1) = ((i - 1 : Nat) : Int) := by rw [wrap_small (by omega) (by omega)]; omega
      have hi' : i - 1 < l.length := by omega
      have hz0 : decide (i = 0) = false := decide_eq_false (by omega)
      constructor
      · cases hb : Op.bytesLess (l.getD (i - 1) default).Name (l.getD i default).Name <;>
        simp only [DT.get, nat_dec hi, nat_ge, Bool.and_self, Int.toNat_natCast, e1, s1, s3, hv, Bool.not_true, Bool.not_false, d0, hw, nat_dec hi', hn, hz0, hb, Bool.false_or, Bool.true_and, cond_true, cond_false]
      · intro h16
        cases hb : Op.bytesLess (l.getD (i - 1) default).Name (l.getD i default).Name <;>
        simp only [DT.get, nat_dec hi, nat_ge, Bool.and_self, Int.toNat_natCast, e1, h16, s2, hv, Bool.not_true, Bool.not_false, d0, hw, nat_dec hi', hn, hz0, hb, Bool.false_or, Bool.true_and, cond_true, cond_false]

theorem AreEntries_eq (l : List Entry) (hl : l.length ≤ 2 ^ 40) (hf : ∀ e ∈ l, e.Name.length ≤ 2 ^ 62) : impl_AreEntries_need l = true ∧ impl_AreEntries l = okE l := by
  obtain ⟨h1, h2⟩ := scan_loop (α := Unit) (β := Unit) (step := impl_AreEntries_loop0_step (l, l, ((l.length : Nat) : Int))) l.length (fun i => bif goodE l i then none else some ()) () (fun i hi => ⟨[], by rw [(entries_round l hl hf i hi).1]; cases goodE l i <;> rfl⟩) ⟨[], by
    unfold impl_AreEntries_loop0_step
    simp only [DT.get, nat_not]⟩
  have h1 : impl_AreEntries_loop0_ends (l, l, ((l.length : Nat) : Int)) 0 = true := h1
  have key : (impl_AreEntries_tree l).get = some (okE l) := by
    unfold impl_AreEntries_tree okE
    cases hq : firstE l with
    | none =>
      have hq : firstOf (fun i => bif goodE l i then none else some ()) l.length = none := hq
      rw [hq] at h2
      have h2 : impl_AreEntries_loop0 (l, l, ((l.length : Nat) : Int)) 0 = .inr () := h2
      simp only [DT.get, h1, h2, isL, Option.isNone_none, Bool.and_true]
    | some a =>
      have hq : firstOf (fun i => bif goodE l i then none else some ()) l.length = some a := hq
      rw [hq] at h2
      have h2 : impl_AreEntries_loop0 (l, l, ((l.length : Nat) : Int)) 0 = .inl a := h2
      simp only [DT.get, h1, h2, isL, Option.isNone_some, Bool.and_false]
  exact DT.of_get key

theorem l07List_eq (l : List Entry) (hl : l.length ≤ 2 ^ 40) (hf : ∀ e ∈ l, e.Name.length ≤ 2 ^ 62) : spec_l07List_need l = true ∧ spec_l07List l = okE l := by
  cases h16 : decide (((l.length : Nat) : Int) ≤ 16) with
  | true =>
    obtain ⟨h1, h2⟩ := scan_loop (α := Unit) (β := Unit) (step := spec_l07List_loop0_step l) l.length (fun i => bif goodE l i then none else some ()) () (fun i hi => ⟨[], by rw [(entries_round l hl hf i hi).2 h16]; cases goodE l i <;> rfl⟩) ⟨[], by
      unfold spec_l07List_loop0_step
      simp only [DT.get, nat_not]⟩
    have h1 : spec_l07List_loop0_ends l 0 = true := h1
    have key : (spec_l07List_tree l).get = some (okE l) := by
      unfold spec_l07List_tree okE
      cases hq : firstE l with
      | none =>
        have hq : firstOf (fun i => bif goodE l i then none else some ()) l.length = none := hq
        rw [hq] at h2
        have h2 : spec_l07List_loop0 l 0 = .inr () := h2
        simp only [DT.get, h1, h2, isL, Option.isNone_none, Bool.and_true, h16]
      | some a =>
        have hq : firstOf (fun i => bif goodE l i then none else some ()) l.length = some a := hq
        rw [hq] at h2
        have h2 : spec_l07List_loop0 l 0 = .inl a := h2
        simp only [DT.get, h1, h2, isL, Option.isNone_some, Bool.and_false]
    exact DT.of_get key
  | false =>
    have h16' := of_decide_eq_false h16
    obtain ⟨h1, h2⟩ := loop_post (step := spec_l07List_loop0_step l) (fun s => s = 0) (fun _ => 0) (fun r => r = .inr ()) (by
      rintro s rfl
      have hd : decide ((0 : Int) < ((l.length : Nat) : Int)) = true := decide_eq_true (by omega)
      refine ⟨.inr (.inr ()), [], ?_, rfl⟩
      unfold spec_l07List_loop0_step
      simp only [DT.get, hd, h16]) 0 rfl
    have h1 : spec_l07List_loop0_ends l 0 = true := h1
    have h2 : spec_l07List_loop0 l 0 = .inr () := h2
    have key : (spec_l07List_tree l).get = some (okE l) := by
      unfold spec_l07List_tree okE
      simp only [DT.get, h1, h2, isL, h16, Bool.false_and]
    exact DT.of_get key

/-! ## Texts -/

theorem six_length (o : Orbit) : (sixL o).length = 6 := rfl
theorem sevenT_length (x : Nat) (o : Orbit) : (numsT ([x] ++ sixL o)).length = 62 := by
  unfold numsT sixL
  simp only [List.cons_append, List.nil_append, List.map_cons, List.map_nil]
  rw [Go.Lib.join_length]
  simp [Go.Lib.lens, hexW_length]
theorem seven_all {x : Nat} {o : Orbit} (h : F32 x) (ho : o.fits) : ∀ y ∈ [x] ++ sixL o, F32 y := by
  intro y hy
  rcases List.mem_append.1 hy with hy | hy
  · rw [List.mem_singleton.1 hy]; exact h
  · exact six_all ho y hy

/-- The text of an entry. -/
def entryT (e : Entry) : List UInt8 := e.Name ++ [58] ++ numsT ([e.Mass] ++ sixL e.Orb)
theorem entryT_length (e : Entry) : (entryT e).length = e.Name.length + 63 := by
  unfold entryT
  simp only [List.length_append, sevenT_length, List.length_singleton]

def fitE (e : Entry) : Prop := F32 e.Mass ∧ e.Orb.fits
theorem getD_entry {l : List Entry} (hf : ∀ x ∈ l, fitE x) {i : Nat} (h : i < l.length) : fitE (l.getD i default) := hf _ (getD_mem h)

theorem entry_lens (e : Entry) (h : e.Name.length ≤ 2 ^ 20) : decide (List.length e.Name + List.length [58] ≤ 9223372036854775807) = true ∧ (decide ((List.length [e.Mass] + List.length (sixL e.Orb)) * 4 ≤ 140737488355328) && decide (List.length [e.Mass] + List.length (sixL e.Orb) ≤ 9223372036854775807)) = true ∧
    decide (List.length (e.Name ++ [58]) + List.length (numsT ([e.Mass] ++ sixL e.Orb)) ≤ 9223372036854775807) = true := by
  refine ⟨?_, ?_, ?_⟩
  · rw [decide_eq_true_eq]; simp only [List.length_singleton, List.length_cons, List.length_nil]; omega
  · rw [six_length]; rfl
  · rw [decide_eq_true_eq, List.length_append, sevenT_length]; simp only [List.length_singleton, List.length_cons, List.length_nil]; omega

theorem entries_spec (l : List Entry) (hl : l.length ≤ 2 ^ 20) (hn : ∀ i, i < l.length → (l.getD i default).Name.length ≤ 2 ^ 20) (hf : ∀ x ∈ l, fitE x) : spec_l08Entries_need l = true ∧ spec_l08Entries l = listT entryT l := by
  have hB : ∀ x ∈ l, (entryT x).length ≤ 1048639 := fun x hx => by
    obtain ⟨i, hi, rfl⟩ := List.mem_iff_getElem.1 hx
    have := hn i hi
    rw [List.getD_eq_getElem?_getD, List.getElem?_eq_getElem hi, Option.getD_some] at this
    rw [entryT_length]
    omega
  rcases Nat.eq_zero_or_pos l.length with h0 | h0
  · have : l = [] := List.eq_nil_of_length_eq_zero h0
    subst this
    exact DT.of_get (t := spec_l08Entries_tree []) rfl
  · have hloop := loop_post (step := spec_l08Entries_loop0_step l) (fun s => ∃ i : Nat, s.2 = (i : Int) ∧ i ≤ l.length ∧ s.1 = Go.Lib.join ((l.take i).map entryT) [47]) (fun s => l.length - s.2.toNat) (fun r => r = Go.Lib.join (l.map entryT) [47]) (by
      rintro ⟨t, s⟩ ⟨i, hs, hi, ht⟩
      simp only at hs ht
      subst hs ht
      rcases Nat.lt_or_ge i l.length with hlt | hge
      · have hfit := getD_entry hf hlt
        have hnm := hn i hlt
        obtain ⟨g1, g2⟩ := nums_spec ([(l.getD i default).Mass] ++ sixL (l.getD i default).Orb) (by simp [sixL]) (seven_all hfit.1 hfit.2)
        obtain ⟨c1, c2, c3⟩ := entry_lens (l.getD i default) hnm
        have e1 : spec_l08Six (⟨(l.getD i default).Orb.Long, (l.getD i default).Orb.Round, (l.getD i default).Orb.Tilt, (l.getD i default).Orb.Node, (l.getD i default).Orb.Peri, (l.getD i default).Orb.Phase⟩ : Orbit) = sixL (l.getD i default).Orb := rfl
        have e3 : (l.getD i default).Name ++ [58] ++ numsT ([(l.getD i default).Mass] ++ sixL (l.getD i default).Orb) = entryT (l.getD i default) := rfl
        have hle := list_len entryT 1048639 l hB i
        have hm : i * 1048640 ≤ 1048576 * 1048640 := Nat.mul_le_mul_right _ (by omega)
        have hel := entryT_length (l.getD i default)
        refine ⟨.inl (Go.Lib.join ((l.take (i + 1)).map entryT) [47], ((i + 1 : Nat) : Int)), [], ?_, ⟨i + 1, rfl, hlt, rfl⟩, ?_⟩
        · unfold spec_l08Entries_loop0_step
          rcases Nat.eq_zero_or_pos i with hz | hz
          · subst hz
            have d0 : decide (((0 : Nat) : Int) > 0) = false := rfl
            have c5 : decide (List.length (Go.Lib.join ((l.take 0).map entryT) [47]) + List.length (entryT (l.getD 0 default)) ≤ 9223372036854775807) = true := by
              rw [decide_eq_true_eq, List.take_zero, List.map_nil, Go.Lib.join_nil, List.length_nil, hel]
              clear hle hm
              omega
            have ej : Go.Lib.join ((l.take 0).map entryT) [47] ++ entryT (l.getD 0 default) = Go.Lib.join ((l.take (0 + 1)).map entryT) [47] := by
              rw [join_first entryT [47] h0 default, List.take_zero, List.map_nil, Go.Lib.join_nil, List.nil_append]
            simp only [DT.get, nat_dec hlt, nat_ge, Bool.and_self, Int.toNat_natCast, d0, e1, g1, g2, c1, c2, c3, e3, c5, nat_next hlt (Nat.le_trans hl (by decide)), ej]
          · have d0 : decide (((i : Nat) : Int) > 0) = true := decide_eq_true (by omega)
            have c0 : decide (List.length (Go.Lib.join ((l.take i).map entryT) [47]) + List.length [47] ≤ 9223372036854775807) = true := by
              rw [decide_eq_true_eq, List.length_singleton]; omega
            have c5 : decide (List.length (Go.Lib.join ((l.take i).map entryT) [47] ++ [47]) + List.length (entryT (l.getD i default)) ≤ 9223372036854775807) = true := by
              rw [decide_eq_true_eq, List.length_append, List.length_singleton]; omega
            have ej : Go.Lib.join ((l.take i).map entryT) [47] ++ [47] ++ entryT (l.getD i default) = Go.Lib.join ((l.take (i + 1)).map entryT) [47] := by
              rw [join_step entryT [47] hlt hz default, List.append_assoc]
            simp only [DT.get, nat_dec hlt, nat_ge, Bool.and_self, Int.toNat_natCast, d0, c0, e1, g1, g2, c1, c2, c3, e3, c5, nat_next hlt (Nat.le_trans hl (by decide)), ej]
        · show l.length - ((i + 1 : Nat) : Int).toNat < l.length - ((i : Nat) : Int).toNat
          rw [Int.toNat_natCast, Int.toNat_natCast]
          omega
      · have he : i = l.length := Nat.le_antisymm hi hge
        refine ⟨.inr (Go.Lib.join ((l.take i).map entryT) [47]), [], ?_, ?_⟩
        · unfold spec_l08Entries_loop0_step
          simp only [DT.get, he, nat_not]
        · rw [he, List.take_length]) ([], 0) ⟨0, rfl, Nat.zero_le _, rfl⟩
    have e1 : ((((List.length l : Nat) : Int)) == 0) = false := by rw [beq_eq_false_iff_ne]; omega
    have key : (spec_l08Entries_tree l).get = some (listT entryT l) := by
      unfold spec_l08Entries_tree
      have l1 : spec_l08Entries_loop0_ends l ([], 0) = true := hloop.1
      have l2 : spec_l08Entries_loop0 l ([], 0) = _ := hloop.2
      simp only [DT.get, e1, l1, l2, listT_pos entryT h0]
    exact DT.of_get key

theorem entries_loop (l : List Entry) (hl : l.length ≤ 2 ^ 20) (hn : ∀ i, i < l.length → (l.getD i default).Name.length ≤ 2 ^ 20) (hf : ∀ x ∈ l, fitE x) : impl_EntriesText_loop0_ends (l, ((l.length : Nat) : Int)) (0, []) = true ∧ impl_EntriesText_loop0 (l, ((l.length : Nat) : Int)) (0, []) = l.map entryT := by
  exact loop_post (step := impl_EntriesText_loop0_step (l, ((l.length : Nat) : Int))) (fun s => ∃ i : Nat, s.1 = (i : Int) ∧ i ≤ l.length ∧ s.2 = (l.take i).map entryT) (fun s => l.length - s.1.toNat) (fun r => r = l.map entryT) (by
    rintro ⟨s, t⟩ ⟨i, hs, hi, ht⟩
    simp only at hs ht
    subst hs ht
    rcases Nat.lt_or_ge i l.length with hlt | hge
    · have hfit := getD_entry hf hlt
      have hnm := hn i hlt
      obtain ⟨g1, g2⟩ := few_impl ([(l.getD i default).Mass] ++ sixL (l.getD i default).Orb) (by simp [sixL]) (seven_all hfit.1 hfit.2)
      obtain ⟨c1, c2, c3⟩ := entry_lens (l.getD i default) hnm
      have e1 : impl_Orbit_numbers (⟨(l.getD i default).Orb.Long, (l.getD i default).Orb.Round, (l.getD i default).Orb.Tilt, (l.getD i default).Orb.Node, (l.getD i default).Orb.Peri, (l.getD i default).Orb.Phase⟩ : Orbit) = sixL (l.getD i default).Orb := rfl
      have e3 : (l.getD i default).Name ++ [58] ++ numsT ([(l.getD i default).Mass] ++ sixL (l.getD i default).Orb) = entryT (l.getD i default) := rfl
      refine ⟨.inl (((i + 1 : Nat) : Int), (l.take (i + 1)).map entryT), [153], ?_, ⟨i + 1, rfl, hlt, rfl⟩, ?_⟩
      · unfold impl_EntriesText_loop0_step
        have c5 : (decide ((List.length ((l.take i).map entryT) + List.length [entryT (l.getD i default)]) * 16 ≤ 140737488355328) && decide (List.length ((l.take i).map entryT) + List.length [entryT (l.getD i default)] ≤ 9223372036854775807)) = true := by
          rw [Bool.and_eq_true, decide_eq_true_eq, decide_eq_true_eq, List.length_map, List.length_take, List.length_singleton]
          omega
        have e : (l.take (i + 1)).map entryT = (l.take i).map entryT ++ [entryT (l.getD i default)] := by rw [take_snoc hlt default, List.map_append, List.map_singleton]
        simp only [DT.get, nat_dec hlt, nat_ge, Bool.and_self, Int.toNat_natCast, e1, g1, g2, c1, c2, c3, e3, c5, nat_next hlt (Nat.le_trans hl (by decide)), e]
      · show l.length - ((i + 1 : Nat) : Int).toNat < l.length - ((i : Nat) : Int).toNat
        rw [Int.toNat_natCast, Int.toNat_natCast]
        omega
    · have he : i = l.length := Nat.le_antisymm hi hge
      refine ⟨.inr ((l.take i).map entryT), [0], ?_, ?_⟩
      · unfold impl_EntriesText_loop0_step
        simp only [DT.get, he, nat_not]
      · rw [he, List.take_length]) (0, []) ⟨0, rfl, Nat.zero_le _, rfl⟩

noncomputable def entriesT (l : List Entry) : List UInt8 × Bool := match okE l with
  | true => (listT entryT l, true)
  | false => ([], false)

theorem plain7 (l : List Entry) (hl : l.length ≤ maxLen) (hf : ∀ x ∈ l, x.Name.length ≤ maxLen ∧ F32 x.Mass ∧ x.Orb.fits) : laws_FnExactEntriesText_need l = true ∧ laws_FnExactEntriesText l = true := by
  obtain ⟨z1, z2⟩ := szE l hl fun e he => (hf e he).1
  have key : (laws_FnExactEntriesText_tree l).get = some true := by
    unfold laws_FnExactEntriesText_tree
    cases hs : decide (laws_szEntryS l 1048576 < 0) with
    | true => simp only [DT.get, z1, hs]
    | false =>
      obtain ⟨hl', hn⟩ := z2 hs
      have hf2 : ∀ x ∈ l, fitE x := fun x hx => (hf x hx).2
      have hf3 : ∀ e ∈ l, e.Name.length ≤ 2 ^ 62 := fun x hx => by
        obtain ⟨i, hi, rfl⟩ := List.mem_iff_getElem.1 hx
        have := hn i hi
        rw [List.getD_eq_getElem?_getD, List.getElem?_eq_getElem hi, Option.getD_some] at this
        omega
      have hB : ∀ x ∈ l, (entryT x).length ≤ 1048639 := fun x hx => by
        obtain ⟨i, hi, rfl⟩ := List.mem_iff_getElem.1 hx
        have := hn i hi
        rw [List.getD_eq_getElem?_getD, List.getElem?_eq_getElem hi, Option.getD_some] at this
        rw [entryT_length]
        omega
      obtain ⟨t1, t2⟩ := toEntryS_eq l (by omega)
      obtain ⟨a1, a2⟩ := l07List_eq l (by omega) hf3
      obtain ⟨b1, b2⟩ := AreEntries_eq l (by omega) hf3
      obtain ⟨c1, c2⟩ := entries_spec l hl' hn hf2
      obtain ⟨d1, d2⟩ := entries_loop l hl' hn hf2
      obtain ⟨s1, s2⟩ := slashed_eq entryT 1048639 (by decide) l hB hl'
      obtain ⟨q1, q2⟩ := eqEntryS_self l (by omega)
      have ks : spec_EntriesText_need l = true ∧ spec_EntriesText l = entriesT l := by
        have key : (spec_EntriesText_tree l).get = some (entriesT l) := by
          unfold spec_EntriesText_tree entriesT
          cases hv : okE l <;> simp only [DT.get, a1, a2, hv, c1, c2, Bool.not_true, Bool.not_false]
        exact DT.of_get key
      have ki : impl_EntriesText_need l = true ∧ impl_EntriesText l = entriesT l := by
        have key : (impl_EntriesText_tree l).get = some (entriesT l) := by
          unfold impl_EntriesText_tree entriesT
          cases hv : okE l <;> simp only [DT.get, b1, b2, hv, d1, d2, s1, s2, Bool.not_true, Bool.not_false]
        exact DT.of_get key
      simp only [DT.get, z1, hs, t1, t2, ks.1, ks.2, ki.1, ki.2, q1, q2, beq_self_eq_true, Bool.not_true]
  exact DT.of_get key

end Go.Proofs.YtcipkfndnkmjlaaDoor
