/- The law of catalogs, part 5: entries are put, found, taken out, compared and stored. -/
import Derived.Test.YtnmeiodaeaabfaaK4
namespace Go.Proofs.Ytnmeiodaeaabfaa
set_option linter.unusedVariables false
set_option linter.unusedSimpArgs false

/-! ## The order of texts -/

theorem less_irrefl : ∀ x : List UInt8, Op.bytesLess x x = false
  | [] => rfl
  | a :: x => by
    unfold Op.bytesLess
    rw [less_irrefl x]
    have : decide (a < a) = false := decide_eq_false (by rw [UInt8.lt_iff_toNat_lt]; omega)
    rw [this]
    simp

theorem less_cons (a b : UInt8) (x y : List UInt8) : Op.bytesLess (a :: x) (b :: y) = true ↔ a.toNat < b.toNat ∨ (a = b ∧ Op.bytesLess x y = true) := by
  rw [Op.bytesLess]
  simp only [Bool.or_eq_true, decide_eq_true_eq, Bool.and_eq_true, beq_iff_eq, UInt8.lt_iff_toNat_lt]

theorem less_trans : ∀ {x y z : List UInt8}, Op.bytesLess x y = true → Op.bytesLess y z = true → Op.bytesLess x z = true
  | x, [], _, h, _ => by cases x <;> simp [Op.bytesLess] at h
  | _, _ :: _, [], _, h => by cases h
  | [], _ :: _, _ :: _, _, _ => rfl
  | a :: x, b :: y, c :: z, h1, h2 => by
    rw [less_cons] at h1 h2 ⊢
    rcases h1 with h1 | ⟨rfl, h1⟩
    · rcases h2 with h2 | ⟨rfl, h2⟩
      · exact .inl (by omega)
      · exact .inl h1
    · rcases h2 with h2 | ⟨rfl, h2⟩
      · exact .inl h2
      · exact .inr ⟨rfl, less_trans h1 h2⟩

theorem less_asym {x y : List UInt8} (h : Op.bytesLess x y = true) : Op.bytesLess y x = false := by
  refine Bool.eq_false_iff.2 fun h2 => ?_
  have := less_trans h h2
  rw [less_irrefl] at this
  cases this

theorem less_tri : ∀ {x y : List UInt8}, x ≠ y → Op.bytesLess x y = true ∨ Op.bytesLess y x = true
  | [], [], h => absurd rfl h
  | [], _ :: _, _ => .inl rfl
  | _ :: _, [], _ => .inr rfl
  | a :: x, b :: y, h => by
    rw [less_cons, less_cons]
    by_cases hab : a = b
    · subst hab
      rcases less_tri (x := x) (y := y) (fun e => h (by rw [e])) with g | g
      · exact .inl (.inr ⟨rfl, g⟩)
      · exact .inr (.inr ⟨rfl, g⟩)
    · have : a.toNat ≠ b.toNat := fun e => hab (UInt8.toNat_inj.1 e)
      rcases Nat.lt_or_ge a.toNat b.toNat with g | g
      · exact .inl (.inl g)
      · exact .inr (.inl (by omega))

/-! ## Lists in order -/

def Lt (a b : Entry) : Prop := Op.bytesLess a.Name b.Name = true

theorem asc_pair : ∀ {l : List Entry}, ascE l → l.Pairwise Lt
  | [], _ => .nil
  | [a], _ => by simp
  | a :: b :: l, h => by
    have ht : ascE (b :: l) := fun i hi => h (i + 1) (by simpa using hi)
    have ih := asc_pair ht
    have hab : Lt a b := h 0 (by simp)
    refine List.Pairwise.cons (fun c hc => ?_) ih
    rcases List.mem_cons.1 hc with rfl | hc
    · exact hab
    · exact less_trans hab ((List.pairwise_cons.1 ih).1 c hc)

theorem pair_asc {l : List Entry} (h : l.Pairwise Lt) : ascE l := by
  intro i hi
  have := List.pairwise_iff_getElem.1 h i (i + 1) (by omega) hi (by omega)
  rw [List.getD_eq_getElem?_getD, List.getD_eq_getElem?_getD, List.getElem?_eq_getElem (by omega), List.getElem?_eq_getElem hi]
  exact this

/-- A list that is valid and in order. -/
def OkV (l : List Entry) : Prop := (∀ e ∈ l, spec_l07Entry e = true) ∧ l.Pairwise Lt ∧ l.length ≤ 16

theorem OkL.okV {l : List Entry} (h : OkL l) : OkV l := ⟨fun e he => (h.1 e he).1, asc_pair h.2.1, h.2.2⟩

theorem firstOf_none {α : Type} {g : Nat → Option α} {n : Nat} : firstOf g n = none ↔ ∀ i, i < n → g i = none := by
  unfold firstOf
  rw [List.findSome?_eq_none_iff]
  exact ⟨fun h i hi => h i (List.mem_range.2 hi), fun h x hx => h x (List.mem_range.1 hx)⟩

theorem okE_iff (l : List Entry) : okE l = true ↔ OkV l := by
  unfold okE firstE
  rw [Bool.and_eq_true, decide_eq_true_eq, Option.isNone_iff_eq_none, firstOf_none]
  have hg : (∀ i, i < l.length → (bif goodE l i then none else some ()) = none) ↔ ∀ i, i < l.length → goodE l i = true := by
    refine forall_congr' fun i => forall_congr' fun _ => ?_
    cases goodE l i <;> simp
  rw [hg]
  constructor
  · rintro ⟨h1, h2⟩
    refine ⟨fun e he => ?_, asc_pair fun i hi => ?_, by omega⟩
    · obtain ⟨i, hi, rfl⟩ := List.mem_iff_getElem.1 he
      have := h2 i hi
      unfold goodE at this
      rw [Bool.and_eq_true, List.getD_eq_getElem?_getD, List.getElem?_eq_getElem hi] at this
      exact this.1
    · have := h2 (i + 1) hi
      unfold goodE at this
      rw [Bool.and_eq_true, decide_eq_false (by omega), Bool.false_or] at this
      exact this.2
  · rintro ⟨h1, h2, h3⟩
    refine ⟨by omega, fun i hi => ?_⟩
    unfold goodE
    rw [h1 _ (getD_mem hi), Bool.true_and]
    rcases Nat.eq_zero_or_pos i with h0 | h0
    · rw [decide_eq_true h0, Bool.true_or]
    · have := pair_asc h2 (i - 1) (by omega)
      rw [show i - 1 + 1 = i from by omega] at this
      rw [this, Bool.or_true]

theorem OkV.names {l : List Entry} (h : OkV l) : ∀ e ∈ l, e.Name.length ≤ 2 ^ 62 := fun e he => by
  have := (entry_facts (h.1 e he)).2.1
  omega

theorem are_ok {l : List Entry} (h : OkV l) : impl_AreEntries_need l = true ∧ impl_AreEntries l = true := by
  obtain ⟨a, b⟩ := AreEntries_eq l (by have := h.2.2; omega) h.names
  exact ⟨a, b.trans ((okE_iff l).2 h)⟩

/-! ## Putting -/

theorem filter_loop {step : Int × List Entry → Round (Int × List Entry) (List Entry)} (l : List Entry) (f : Entry → Bool) (B : Nat)
    (h : ∀ (i : Nat) (acc : List Entry), i < l.length → acc.length ≤ B → ∃ fl, (step ((i : Int), acc)).get = some (.inl (((i + 1 : Nat) : Int), bif f (l.getD i default) then acc ++ [l.getD i default] else acc), fl))
    (hn : ∀ acc : List Entry, ∃ fl, (step (((l.length : Nat) : Int), acc)).get = some (.inr acc, fl)) (acc : List Entry) (hB : acc.length + l.length ≤ B) :
    loopEnds step (0, acc) = true ∧ loopVal step (0, acc) = acc ++ l.filter f := by
  refine loop_post (step := step) (fun s => ∃ i : Nat, i ≤ l.length ∧ s = ((i : Int), acc ++ (l.take i).filter f)) (fun s => l.length - s.1.toNat) (fun r => r = acc ++ l.filter f) ?_ (0, acc) ⟨0, Nat.zero_le _, by simp⟩
  rintro s ⟨i, hi, rfl⟩
  rcases Nat.lt_or_ge i l.length with hlt | hge
  · have hfl : ((l.take i).filter f).length ≤ i := by
      have := List.length_filter_le f (l.take i)
      rw [List.length_take] at this
      omega
    obtain ⟨fl, hs⟩ := h i (acc ++ (l.take i).filter f) hlt (by rw [List.length_append]; omega)
    refine ⟨_, fl, hs, ⟨i + 1, hlt, ?_⟩, ?_⟩
    · rw [take_next (d := default) hlt, List.filter_append]
      congr 1
      generalize l.getD i default = x
      cases hf : f x with
      | true =>
        rw [show List.filter f [x] = [x] from by simp [hf], cond_true, List.append_assoc]
      | false =>
        rw [show List.filter f [x] = [] from by simp [hf], cond_false, List.append_nil]
    · show l.length - ((i + 1 : Nat) : Int).toNat < l.length - ((i : Nat) : Int).toNat
      rw [Int.toNat_natCast, Int.toNat_natCast]
      omega
  · have he : i = l.length := Nat.le_antisymm hi hge
    subst he
    obtain ⟨fl, hs⟩ := hn (acc ++ l.filter f)
    rw [List.take_length]
    exact ⟨_, fl, hs, rfl⟩

def lowE (e : Entry) (l : List Entry) : List Entry := l.filter fun x => Op.bytesLess x.Name e.Name
def highE (e : Entry) (l : List Entry) : List Entry := l.filter fun x => !(Op.bytesLess x.Name e.Name || x.Name == e.Name)

theorem put_eq (l : List Entry) (e : Entry) (hl : OkV l) (he : spec_l07Entry e = true) (hn : (lowE e l ++ [e] ++ highE e l).length ≤ 16) :
    impl_PutEntry_need l e = true ∧ impl_PutEntry l e = .inr (lowE e l ++ [e] ++ highE e l) := by
  obtain ⟨a1, a2⟩ := are_ok hl
  have hlen := hl.2.2
  have hel := (entry_facts he).2.1
  obtain ⟨v1, v2, v3⟩ := entry_same e (by omega)
  rw [he] at v3
  have hg : ∀ (acc : List Entry) (x : Entry), acc.length ≤ 64 → (decide ((acc.length + [x].length) * 48 ≤ 140737488355328) && decide (acc.length + [x].length ≤ 9223372036854775807)) = true := by
    intro acc x h
    show (decide ((acc.length + 1) * 48 ≤ 140737488355328) && decide (acc.length + 1 ≤ 9223372036854775807)) = true
    rw [decide_eq_true (by omega), decide_eq_true (by omega)]; rfl
  have eta : ∀ x : Entry, (⟨x.Name, x.Mass, ⟨x.Orb.Long, x.Orb.Round, x.Orb.Tilt, x.Orb.Node, x.Orb.Peri, x.Orb.Phase⟩⟩ : Entry) = x := fun _ => rfl
  have L0 := filter_loop (step := impl_PutEntry_loop0_step (l, l, ((l.length : Nat) : Int), e.Name, e.Mass, e.Orb.Long, e.Orb.Round, e.Orb.Tilt, e.Orb.Node, e.Orb.Peri, e.Orb.Phase)) l (fun x => Op.bytesLess x.Name e.Name) 64 (fun i acc hi hacc => by
    unfold impl_PutEntry_loop0_step
    cases hb : Op.bytesLess (l.getD i default).Name e.Name with
    | true =>
      refine ⟨[0, 106], ?_⟩
      simp only [DT.get, nat_dec hi, nat_ge, Bool.and_self, Bool.and_true, Int.toNat_natCast, hb, eta, hg acc _ hacc, nat_next hi (by omega), cond_true]
    | false =>
      refine ⟨[0, 1], ?_⟩
      simp only [DT.get, nat_dec hi, nat_ge, Bool.and_self, Bool.and_true, Int.toNat_natCast, hb, nat_next hi (by omega), cond_false]) (fun acc => ⟨[0, 1], by
    unfold impl_PutEntry_loop0_step
    simp only [DT.get, nat_not]⟩) [] (by show 0 + _ ≤ 64; omega)
  have L1 := filter_loop (step := impl_PutEntry_loop1_step (l, ((l.length : Nat) : Int), e.Name, e.Mass, e.Orb.Long, e.Orb.Round, e.Orb.Tilt, e.Orb.Node, e.Orb.Peri, e.Orb.Phase)) l (fun x => !(Op.bytesLess x.Name e.Name || x.Name == e.Name)) 64 (fun i acc hi hacc => by
    unfold impl_PutEntry_loop1_step
    cases hb : !(Op.bytesLess (l.getD i default).Name e.Name || (l.getD i default).Name == e.Name) with
    | true =>
      refine ⟨[0, 106], ?_⟩
      simp only [DT.get, nat_dec hi, nat_ge, Bool.and_self, Bool.and_true, Int.toNat_natCast, hb, eta, hg acc _ hacc, nat_next hi (by omega), cond_true]
    | false =>
      refine ⟨[0, 1], ?_⟩
      simp only [DT.get, nat_dec hi, nat_ge, Bool.and_self, Bool.and_true, Int.toNat_natCast, hb, nat_next hi (by omega), cond_false]) (fun acc => ⟨[1], by
    unfold impl_PutEntry_loop1_step
    simp only [DT.get, nat_not]⟩) (lowE e l ++ [e]) (by
      rw [List.length_append, List.length_append] at hn
      rw [List.length_append]
      have : (lowE e l).length ≤ 15 := by have : [e].length = 1 := rfl; omega
      have : [e].length = 1 := rfl
      omega)
  obtain ⟨L0a, L0b⟩ := L0
  obtain ⟨L1a, L1b⟩ := L1
  have L0a : impl_PutEntry_loop0_ends (l, l, ((l.length : Nat) : Int), e.Name, e.Mass, e.Orb.Long, e.Orb.Round, e.Orb.Tilt, e.Orb.Node, e.Orb.Peri, e.Orb.Phase) (0, []) = true := L0a
  have L0b : impl_PutEntry_loop0 (l, l, ((l.length : Nat) : Int), e.Name, e.Mass, e.Orb.Long, e.Orb.Round, e.Orb.Tilt, e.Orb.Node, e.Orb.Peri, e.Orb.Phase) (0, []) = lowE e l := L0b
  have L1a : impl_PutEntry_loop1_ends (l, ((l.length : Nat) : Int), e.Name, e.Mass, e.Orb.Long, e.Orb.Round, e.Orb.Tilt, e.Orb.Node, e.Orb.Peri, e.Orb.Phase) (0, lowE e l ++ [e]) = true := L1a
  have L1b : impl_PutEntry_loop1 (l, ((l.length : Nat) : Int), e.Name, e.Mass, e.Orb.Long, e.Orb.Round, e.Orb.Tilt, e.Orb.Node, e.Orb.Peri, e.Orb.Phase) (0, lowE e l ++ [e]) = lowE e l ++ [e] ++ highE e l := L1b
  have hlow : (lowE e l).length ≤ 64 := by
    have : (lowE e l).length ≤ l.length := List.length_filter_le ..
    omega
  have key : (impl_PutEntry_tree l e).get = some (.inr (lowE e l ++ [e] ++ highE e l)) := by
    unfold impl_PutEntry_tree
    have d : decide ((((lowE e l ++ [e] ++ highE e l).length : Nat) : Int) > 16) = false := decide_eq_false (by omega)
    simp only [DT.get, a1, a2, eta, v1, v3, Bool.not_true, L0a, L0b, hg _ _ hlow, L1a, L1b, d]
  exact DT.of_get key

/-- What is put between what stands below and what stands above. -/
structure Cut (e : Entry) (a b : List Entry) : Prop where
  low : ∀ x ∈ a, Lt x e
  high : ∀ x ∈ b, Lt e x

theorem Cut.filters {e : Entry} {a b : List Entry} (h : Cut e a b) (m : List Entry) (hm : ∀ x ∈ m, x.Name = e.Name) : lowE e (a ++ m ++ b) = a ∧ highE e (a ++ m ++ b) = b := by
  have la : ∀ x ∈ a, Op.bytesLess x.Name e.Name = true := h.low
  have lb : ∀ x ∈ b, Op.bytesLess x.Name e.Name = false := fun x hx => less_asym (h.high x hx)
  have lm : ∀ x ∈ m, Op.bytesLess x.Name e.Name = false := fun x hx => by rw [hm x hx]; exact less_irrefl _
  have nb : ∀ x ∈ b, (x.Name == e.Name) = false := fun x hx => by
    refine beq_eq_false_iff_ne.2 fun he => ?_
    have : Op.bytesLess e.Name x.Name = true := h.high x hx
    rw [he, less_irrefl] at this
    cases this
  unfold lowE highE
  rw [List.filter_append, List.filter_append, List.filter_append, List.filter_append]
  have f1 : a.filter (fun x => Op.bytesLess x.Name e.Name) = a := List.filter_eq_self.2 la
  have f2 : m.filter (fun x => Op.bytesLess x.Name e.Name) = [] := List.filter_eq_nil_iff.2 fun x hx => by rw [lm x hx]; simp
  have f3 : b.filter (fun x => Op.bytesLess x.Name e.Name) = [] := List.filter_eq_nil_iff.2 fun x hx => by rw [lb x hx]; simp
  have g1 : a.filter (fun x => !(Op.bytesLess x.Name e.Name || x.Name == e.Name)) = [] := List.filter_eq_nil_iff.2 fun x hx => by rw [la x hx]; simp
  have g2 : m.filter (fun x => !(Op.bytesLess x.Name e.Name || x.Name == e.Name)) = [] := List.filter_eq_nil_iff.2 fun x hx => by rw [hm x hx]; simp
  have g3 : b.filter (fun x => !(Op.bytesLess x.Name e.Name || x.Name == e.Name)) = b := List.filter_eq_self.2 fun x hx => by rw [lb x hx, nb x hx]; rfl
  rw [f1, f2, f3, g1, g2, g3]
  simp

theorem cut_of : ∀ {l : List Entry} (e : Entry), l.Pairwise Lt → (∀ x ∈ l, x.Name ≠ e.Name) → ∃ a b, l = a ++ b ∧ Cut e a b
  | [], e, _, _ => ⟨[], [], rfl, ⟨fun _ h => absurd h List.not_mem_nil, fun _ h => absurd h List.not_mem_nil⟩⟩
  | x :: l, e, hp, hn => by
    obtain ⟨h1, h2⟩ := List.pairwise_cons.1 hp
    rcases less_tri (hn x (List.mem_cons_self ..)) with g | g
    · obtain ⟨a, b, rfl, hc⟩ := cut_of e h2 fun y hy => hn y (List.mem_cons_of_mem _ hy)
      refine ⟨x :: a, b, rfl, ⟨fun y hy => ?_, hc.high⟩⟩
      rcases List.mem_cons.1 hy with rfl | hy
      · exact g
      · exact hc.low y hy
    · refine ⟨[], x :: l, rfl, ⟨fun _ h => absurd h List.not_mem_nil, fun y hy => ?_⟩⟩
      rcases List.mem_cons.1 hy with rfl | hy
      · exact g
      · exact less_trans g (h1 y hy)

theorem Cut.okV {e : Entry} {a b : List Entry} (h : Cut e a b) (hab : OkV (a ++ b)) (he : spec_l07Entry e = true) (hl : (a ++ b).length ≤ 15) : OkV (a ++ [e] ++ b) := by
  obtain ⟨p1, p2, p3⟩ := List.pairwise_append.1 hab.2.1
  refine ⟨fun x hx => ?_, ?_, ?_⟩
  · simp only [List.mem_append, List.mem_singleton] at hx
    rcases hx with (hx | rfl) | hx
    · exact hab.1 x (List.mem_append_left _ hx)
    · exact he
    · exact hab.1 x (List.mem_append_right _ hx)
  · rw [List.append_assoc, List.pairwise_append]
    refine ⟨p1, List.Pairwise.cons (fun y hy => h.high y hy) p2, fun x hx y hy => ?_⟩
    rcases List.mem_cons.1 hy with rfl | hy
    · exact h.low x hx
    · exact p3 x hx y hy
  · simp only [List.length_append, List.length_singleton] at hl ⊢
    omega

/-! ## Finding and taking out -/

theorem find_loop_at (l : List Entry) (s : List UInt8) (k : Nat) (hk : k < l.length) (hl : l.length ≤ 2 ^ 40) (h0 : ∀ j, j < k → (l.getD j default).Name ≠ s) (h1 : (l.getD k default).Name = s) :
    slices_IndexFunc___impl_Entry_impl_Entry__impl_FindEntry_1_need l s = true ∧ slices_IndexFunc___impl_Entry_impl_Entry__impl_FindEntry_1 l s = (k : Int) := by
  obtain ⟨a, b⟩ := loop_post (step := slices_IndexFunc___impl_Entry_impl_Entry__impl_FindEntry_1_loop0_step (l, s, ((l.length : Nat) : Int))) (fun t => ∃ i : Nat, t = (i : Int) ∧ i ≤ k) (fun t => k - t.toNat) (fun r => r = .inl (k : Int)) (by
    rintro t ⟨i, rfl, hi⟩
    have hlt : i < l.length := by omega
    unfold slices_IndexFunc___impl_Entry_impl_Entry__impl_FindEntry_1_loop0_step impl_FindEntry_1 impl_FindEntry_1_tree
    rcases Nat.lt_or_ge i k with g | g
    · refine ⟨.inl ((i + 1 : Nat) : Int), [], ?_, ⟨i + 1, rfl, g⟩, ?_⟩
      · have : ((l.getD i default).Name == s) = false := beq_eq_false_iff_ne.2 (h0 i g)
        simp only [DT.get, DT.val, nat_dec hlt, nat_ge, Bool.and_self, Int.toNat_natCast, this, nat_next hlt (by omega)]
      · show k - ((i + 1 : Nat) : Int).toNat < k - ((i : Nat) : Int).toNat
        rw [Int.toNat_natCast, Int.toNat_natCast]
        omega
    · have he : i = k := Nat.le_antisymm hi g
      subst he
      refine ⟨.inr (.inl (i : Int)), [], ?_, rfl⟩
      simp only [DT.get, DT.val, nat_dec hlt, nat_ge, Bool.and_self, Int.toNat_natCast, h1, beq_self_eq_true]) 0 ⟨0, rfl, Nat.zero_le _⟩
  have a : slices_IndexFunc___impl_Entry_impl_Entry__impl_FindEntry_1_loop0_ends (l, s, ((l.length : Nat) : Int)) 0 = true := a
  have b : slices_IndexFunc___impl_Entry_impl_Entry__impl_FindEntry_1_loop0 (l, s, ((l.length : Nat) : Int)) 0 = .inl (k : Int) := b
  have key : (slices_IndexFunc___impl_Entry_impl_Entry__impl_FindEntry_1_tree l s).get = some (k : Int) := by
    unfold slices_IndexFunc___impl_Entry_impl_Entry__impl_FindEntry_1_tree
    simp only [DT.get, a, b, isL, leftD]
  exact DT.of_get key

theorem find_loop_no (l : List Entry) (s : List UInt8) (hl : l.length ≤ 2 ^ 40) (h0 : ∀ x ∈ l, x.Name ≠ s) :
    slices_IndexFunc___impl_Entry_impl_Entry__impl_FindEntry_1_need l s = true ∧ slices_IndexFunc___impl_Entry_impl_Entry__impl_FindEntry_1 l s = -1 := by
  obtain ⟨a, b⟩ := loop_post (step := slices_IndexFunc___impl_Entry_impl_Entry__impl_FindEntry_1_loop0_step (l, s, ((l.length : Nat) : Int))) (fun t => ∃ i : Nat, t = (i : Int) ∧ i ≤ l.length) (fun t => l.length - t.toNat) (fun r => r = .inr ()) (by
    rintro t ⟨i, rfl, hi⟩
    unfold slices_IndexFunc___impl_Entry_impl_Entry__impl_FindEntry_1_loop0_step impl_FindEntry_1 impl_FindEntry_1_tree
    rcases Nat.lt_or_ge i l.length with g | g
    · refine ⟨.inl ((i + 1 : Nat) : Int), [], ?_, ⟨i + 1, rfl, g⟩, ?_⟩
      · have : ((l.getD i default).Name == s) = false := beq_eq_false_iff_ne.2 (h0 _ (getD_mem g))
        simp only [DT.get, DT.val, nat_dec g, nat_ge, Bool.and_self, Int.toNat_natCast, this, nat_next g (by omega)]
      · show l.length - ((i + 1 : Nat) : Int).toNat < l.length - ((i : Nat) : Int).toNat
        rw [Int.toNat_natCast, Int.toNat_natCast]
        omega
    · have he : i = l.length := Nat.le_antisymm hi g
      subst he
      refine ⟨.inr (.inr ()), [], ?_, rfl⟩
      simp only [DT.get, nat_not]) 0 ⟨0, rfl, Nat.zero_le _⟩
  have a : slices_IndexFunc___impl_Entry_impl_Entry__impl_FindEntry_1_loop0_ends (l, s, ((l.length : Nat) : Int)) 0 = true := a
  have b : slices_IndexFunc___impl_Entry_impl_Entry__impl_FindEntry_1_loop0 (l, s, ((l.length : Nat) : Int)) 0 = .inr () := b
  have key : (slices_IndexFunc___impl_Entry_impl_Entry__impl_FindEntry_1_tree l s).get = some (-1) := by
    unfold slices_IndexFunc___impl_Entry_impl_Entry__impl_FindEntry_1_tree
    simp only [DT.get, a, b, isL]
  exact DT.of_get key

theorem find_at {l : List Entry} {s : List UInt8} {k : Nat} (hk : k < l.length) (hl : OkV l) (h0 : ∀ j, j < k → (l.getD j default).Name ≠ s) (h1 : (l.getD k default).Name = s) :
    impl_FindEntry_need l s = true ∧ impl_FindEntry l s = ((k : Int), true) := by
  obtain ⟨a1, a2⟩ := are_ok hl
  obtain ⟨f1, f2⟩ := find_loop_at l s k hk (by have := hl.2.2; omega) h0 h1
  have d : decide ((k : Int) < 0) = false := decide_eq_false (by omega)
  have key : (impl_FindEntry_tree l s).get = some ((k : Int), true) := by
    unfold impl_FindEntry_tree
    simp only [DT.get, f1, f2, a1, a2, Bool.not_true, d]
  exact DT.of_get key

theorem find_no {l : List Entry} {s : List UInt8} (hl : OkV l) (h0 : ∀ x ∈ l, x.Name ≠ s) :
    impl_FindEntry_need l s = true ∧ impl_FindEntry l s = (0, false) := by
  obtain ⟨a1, a2⟩ := are_ok hl
  obtain ⟨f1, f2⟩ := find_loop_no l s (by have := hl.2.2; omega) h0
  have key : (impl_FindEntry_tree l s).get = some (0, false) := by
    unfold impl_FindEntry_tree
    simp only [DT.get, f1, f2, a1, a2, Bool.not_true]
    rfl
  exact DT.of_get key

theorem concat_eq (a b : List Entry) (h : a.length + b.length ≤ 2 ^ 20) : slices_Concat___impl_Entry_impl_Entry__need a b = true ∧ slices_Concat___impl_Entry_impl_Entry_ a b = (if a ++ b = [] then .inr () else .inl (a ++ b)) := by
  have w1 : IntKind.wrap .i64 (0 + ((a.length : Nat) : Int)) = ((a.length : Nat) : Int) := by rw [wrap_small (by omega) (by omega)]; omega
  have w2 : IntKind.wrap .i64 (((a.length : Nat) : Int) + ((b.length : Nat) : Int)) = ((a.length + b.length : Nat) : Int) := by rw [wrap_small (by omega) (by omega)]; omega
  have d1 : decide (((a.length : Nat) : Int) < 0) = false := decide_eq_false (by omega)
  have d2 : decide (((a.length + b.length : Nat) : Int) < 0) = false := decide_eq_false (by omega)
  have n1 : (decide (0 ≤ ((a.length + b.length : Nat) : Int)) && decide (((a.length + b.length : Nat) : Int) * 48 ≤ 140737488355328)) = true := by rw [decide_eq_true (by omega), decide_eq_true (by omega)]; rfl
  have key : (slices_Concat___impl_Entry_impl_Entry__tree a b).get = some (if a ++ b = [] then .inr () else .inl (a ++ b)) := by
    unfold slices_Concat___impl_Entry_impl_Entry__tree
    by_cases h0 : a ++ b = []
    · obtain ⟨rfl, rfl⟩ := List.append_eq_nil_iff.1 h0
      rfl
    · have hpos : 0 < a.length + b.length := by
        rw [← List.length_append]
        exact List.length_pos_iff.2 h0
      have d3 : decide ((0 : Int) < ((a.length + b.length : Nat) : Int)) = true := decide_eq_true (by omega)
      have g1 : (decide ((([] : List Entry).length + a.length) * 48 ≤ 140737488355328) && decide (([] : List Entry).length + a.length ≤ 9223372036854775807)) = true := by
        show (decide ((0 + a.length) * 48 ≤ 140737488355328) && decide (0 + a.length ≤ 9223372036854775807)) = true
        rw [decide_eq_true (by omega), decide_eq_true (by omega)]; rfl
      have g2 : (decide (((([] : List Entry) ++ a).length + b.length) * 48 ≤ 140737488355328) && decide ((([] : List Entry) ++ a).length + b.length ≤ 9223372036854775807)) = true := by
        show (decide ((a.length + b.length) * 48 ≤ 140737488355328) && decide (a.length + b.length ≤ 9223372036854775807)) = true
        rw [decide_eq_true (by omega), decide_eq_true (by omega)]; rfl
      rw [if_neg h0]
      simp only [DT.get, w1, d1, w2, d2, n1, d3, g1, g2]
      rfl
  exact DT.of_get key

theorem Cut.drops {e : Entry} {a b : List Entry} (h : Cut e a b) (hP : OkV (a ++ [e] ++ b)) : impl_FindEntry_need (a ++ [e] ++ b) e.Name = true ∧ impl_FindEntry (a ++ [e] ++ b) e.Name = (((a.length : Nat) : Int), true) ∧ a.length < (a ++ [e] ++ b).length ∧ ((a ++ [e] ++ b).getD a.length default).Name = e.Name ∧
    impl_DropEntry_need (a ++ [e] ++ b) e.Name = true ∧ impl_DropEntry (a ++ [e] ++ b) e.Name = (if a ++ b = [] then .inl true else .inr (a ++ b)) := by
  have hlen : (a ++ [e] ++ b).length = a.length + 1 + b.length := by simp only [List.length_append, List.length_singleton]
  have h16 := hP.2.2
  have hk : a.length < (a ++ [e] ++ b).length := by omega
  have hgt : (a ++ [e] ++ b).getD a.length default = e := by
    have := getD_app (d := (default : Entry)) a ([e] ++ b) 0
    rw [Nat.add_zero, ← List.append_assoc] at this
    exact this
  have h0 : ∀ j, j < a.length → ((a ++ [e] ++ b).getD j default).Name ≠ e.Name := by
    intro j hj he
    rw [List.append_assoc, List.getD_eq_getElem?_getD, List.getElem?_append_left hj, List.getElem?_eq_getElem hj] at he
    have := h.low _ (List.getElem_mem hj)
    unfold Lt at this
    have he : a[j].Name = e.Name := he
    rw [he, less_irrefl] at this
    cases this
  obtain ⟨f1, f2⟩ := find_at hk hP h0 (by rw [hgt])
  have t1 : (a ++ [e] ++ b).take a.length = a := by rw [List.append_assoc, List.take_left' rfl]
  have t2 : (a ++ [e] ++ b).drop (a.length + 1) = b := List.drop_left' (by simp)
  obtain ⟨c1, c2⟩ := concat_eq a b (by omega)
  have w : IntKind.wrap .i64 (((a.length : Nat) : Int) + 1) = ((a.length + 1 : Nat) : Int) := nat_next hk (by omega)
  have n1 : (decide (0 ≤ ((a.length : Nat) : Int)) && decide (((a.length : Nat) : Int) ≤ (((a ++ [e] ++ b).length : Nat) : Int))) = true := by rw [decide_eq_true (by omega), decide_eq_true (by omega)]; rfl
  have n2 : (decide (0 ≤ ((a.length + 1 : Nat) : Int)) && decide (((a.length + 1 : Nat) : Int) ≤ (((a ++ [e] ++ b).length : Nat) : Int))) = true := by rw [decide_eq_true (by omega), decide_eq_true (by omega)]; rfl
  refine ⟨f1, f2, hk, by rw [hgt], ?_⟩
  have key : (impl_DropEntry_tree (a ++ [e] ++ b) e.Name).get = some (if a ++ b = [] then .inl true else .inr (a ++ b)) := by
    unfold impl_DropEntry_tree
    simp only [DT.get, f1, f2, Bool.not_true, n1, w, n2, Int.toNat_natCast, List.take_length, List.drop_zero, t1, t2, c1, c2]
    by_cases h0 : a ++ b = []
    · simp only [if_pos h0, isL, DT.get]
    · simp only [if_neg h0, isL, leftD, DT.get]
  exact DT.of_get key

/-! ## Being the same -/

theorem feq_self' {k : FloatKind} {x : Nat} (h : isNaN k x = false) : feq k x x = true := by
  have h1 := fne_feq k x x
  have h2 := fne_self k x
  rw [h2, h] at h1
  simpa using h1.symm

theorem same_number (x : Nat) : impl_SameNumber_need x x = true ∧ impl_SameNumber x x = true := by
  have key : (impl_SameNumber_tree x x).get = some true := by
    unfold impl_SameNumber_tree
    simp only [fne_self]
    cases hn : isNaN .f32 x with
    | true => rfl
    | false => simp only [DT.get, feq_self' hn, fconvOk_up, isNaN_up, hn, Bool.not_false, beq_self_eq_true]
  exact DT.of_get key

theorem same_numbers (l : List Nat) (hl : l.length ≤ 2 ^ 62) : impl_sameNumbers_need l l = true ∧ impl_sameNumbers l l = true := by
  obtain ⟨h1, h2⟩ := scan_loop (α := Unit) (β := Unit) (step := slices_EqualFunc___float32___float32_float32_float32__impl_SameNumber_loop0_step (l, l, ((l.length : Nat) : Int))) l.length (fun _ => none) () (fun i hi => by
    refine ⟨[], ?_⟩
    unfold slices_EqualFunc___float32___float32_float32_float32__impl_SameNumber_loop0_step
    simp only [DT.get, nat_dec hi, nat_ge, Bool.and_true, (same_number _).1, (same_number _).2, nat_next hi hl, Bool.not_true]) ⟨[], by
    unfold slices_EqualFunc___float32___float32_float32_float32__impl_SameNumber_loop0_step
    simp only [DT.get, nat_not]⟩
  have hf : firstOf (fun _ : Nat => (none : Option Unit)) l.length = none := firstOf_none.2 fun _ _ => rfl
  rw [hf] at h2
  have h1 : slices_EqualFunc___float32___float32_float32_float32__impl_SameNumber_loop0_ends (l, l, ((l.length : Nat) : Int)) 0 = true := h1
  have h2 : slices_EqualFunc___float32___float32_float32_float32__impl_SameNumber_loop0 (l, l, ((l.length : Nat) : Int)) 0 = .inr () := h2
  have k1 : slices_EqualFunc___float32___float32_float32_float32__impl_SameNumber_need l l = true ∧ slices_EqualFunc___float32___float32_float32_float32__impl_SameNumber l l = true := by
    have key : (slices_EqualFunc___float32___float32_float32_float32__impl_SameNumber_tree l l).get = some true := by
      unfold slices_EqualFunc___float32___float32_float32_float32__impl_SameNumber_tree
      have d : (((List.length l : Nat) : Int) != ((List.length l : Nat) : Int)) = false := by simp
      simp only [DT.get, d, h1, h2, isL]
    exact DT.of_get key
  have key : (impl_sameNumbers_tree l l).get = some true := by
    unfold impl_sameNumbers_tree
    simp only [DT.get, k1.1, k1.2]
  exact DT.of_get key

theorem same_orbit (o : Orbit) : impl_SameOrbit_need o o = true ∧ impl_SameOrbit o o = true := by
  have key : (impl_SameOrbit_tree o o).get = some true := by
    unfold impl_SameOrbit_tree
    obtain ⟨a, b⟩ := same_numbers [o.Long, o.Round, o.Tilt, o.Node, o.Peri, o.Phase] (by show 6 ≤ 2 ^ 62; decide)
    have hn : ∀ x : Orbit, impl_Orbit_numbers x = [x.Long, x.Round, x.Tilt, x.Node, x.Peri, x.Phase] := fun _ => rfl
    simp only [DT.get, hn, a, b]
  exact DT.of_get key

theorem same_entry (e : Entry) : impl_SameEntries_1_need e e = true ∧ impl_SameEntries_1 e e = true := by
  have key : (impl_SameEntries_1_tree e e).get = some true := by
    unfold impl_SameEntries_1_tree
    obtain ⟨a, b⟩ := same_orbit e.Orb
    have eta : (⟨e.Orb.Long, e.Orb.Round, e.Orb.Tilt, e.Orb.Node, e.Orb.Peri, e.Orb.Phase⟩ : Orbit) = e.Orb := rfl
    simp only [DT.get, beq_self_eq_true, (same_number _).1, (same_number _).2, eta, a, b]
  exact DT.of_get key

theorem same_entries (l : List Entry) (hl : l.length ≤ 2 ^ 62) : impl_SameEntries_need l l = true ∧ impl_SameEntries l l = true := by
  have eta : ∀ x : Entry, (⟨x.Name, x.Mass, ⟨x.Orb.Long, x.Orb.Round, x.Orb.Tilt, x.Orb.Node, x.Orb.Peri, x.Orb.Phase⟩⟩ : Entry) = x := fun _ => rfl
  obtain ⟨h1, h2⟩ := scan_loop (α := Unit) (β := Unit) (step := slices_EqualFunc___impl_Entry___impl_Entry_impl_Entry_impl_Entry__impl_SameEntries_1_loop0_step (l, l, ((l.length : Nat) : Int))) l.length (fun _ => none) () (fun i hi => by
    refine ⟨[], ?_⟩
    unfold slices_EqualFunc___impl_Entry___impl_Entry_impl_Entry_impl_Entry__impl_SameEntries_1_loop0_step
    simp only [DT.get, nat_dec hi, nat_ge, Bool.and_true, eta, (same_entry _).1, (same_entry _).2, nat_next hi hl, Bool.not_true]) ⟨[], by
    unfold slices_EqualFunc___impl_Entry___impl_Entry_impl_Entry_impl_Entry__impl_SameEntries_1_loop0_step
    simp only [DT.get, nat_not]⟩
  have hf : firstOf (fun _ : Nat => (none : Option Unit)) l.length = none := firstOf_none.2 fun _ _ => rfl
  rw [hf] at h2
  have h1 : slices_EqualFunc___impl_Entry___impl_Entry_impl_Entry_impl_Entry__impl_SameEntries_1_loop0_ends (l, l, ((l.length : Nat) : Int)) 0 = true := h1
  have h2 : slices_EqualFunc___impl_Entry___impl_Entry_impl_Entry_impl_Entry__impl_SameEntries_1_loop0 (l, l, ((l.length : Nat) : Int)) 0 = .inr () := h2
  have k1 : slices_EqualFunc___impl_Entry___impl_Entry_impl_Entry_impl_Entry__impl_SameEntries_1_need l l = true ∧ slices_EqualFunc___impl_Entry___impl_Entry_impl_Entry_impl_Entry__impl_SameEntries_1 l l = true := by
    have key : (slices_EqualFunc___impl_Entry___impl_Entry_impl_Entry_impl_Entry__impl_SameEntries_1_tree l l).get = some true := by
      unfold slices_EqualFunc___impl_Entry___impl_Entry_impl_Entry_impl_Entry__impl_SameEntries_1_tree
      have d : (((List.length l : Nat) : Int) != ((List.length l : Nat) : Int)) = false := by simp
      simp only [DT.get, d, h1, h2, isL]
    exact DT.of_get key
  have key : (impl_SameEntries_tree l l).get = some true := by
    unfold impl_SameEntries_tree
    simp only [DT.get, k1.1, k1.2]
  exact DT.of_get key

/-! ## Storing and loading -/

theorem store_one {e : Entry} (h : GoodE e) : impl_StoreEntry_need e = true ∧ impl_StoreEntry e = (impl_storeEntry e, true) := by
  have hel := (entry_facts h.1).2.1
  obtain ⟨v1, v2, v3⟩ := entry_same e (by omega)
  rw [h.1] at v3
  have eta : (⟨e.Name, e.Mass, ⟨e.Orb.Long, e.Orb.Round, e.Orb.Tilt, e.Orb.Node, e.Orb.Peri, e.Orb.Phase⟩⟩ : Entry) = e := rfl
  have key : (impl_StoreEntry_tree e).get = some (impl_storeEntry e, true) := by
    unfold impl_StoreEntry_tree
    simp only [DT.get, eta, v1, v3, Bool.not_true, (st_form h).1]
  exact DT.of_get key

theorem load_one {e : Entry} (h : GoodE e) : impl_LoadEntry_need (impl_storeEntry e) = true ∧ impl_LoadEntry (impl_storeEntry e) = (e, true) := by
  have hel := (entry_facts h.1).2.1
  have hlen := st_length h
  obtain ⟨g1, g2⟩ := load_st h [] (by rw [List.append_nil]; omega)
  rw [List.append_nil] at g1 g2
  have eta : (⟨e.Name, e.Mass, ⟨e.Orb.Long, e.Orb.Round, e.Orb.Tilt, e.Orb.Node, e.Orb.Peri, e.Orb.Phase⟩⟩ : Entry) = e := rfl
  have key : (impl_LoadEntry_tree (impl_storeEntry e)).get = some (e, true) := by
    unfold impl_LoadEntry_tree
    have d : (((35 + e.Name.length : Nat) : Int) != ((35 + e.Name.length : Nat) : Int)) = false := by simp
    simp only [DT.get, g1, g2, Bool.not_true, hlen, d, eta]
  exact DT.of_get key

theorem store_all {l : List Entry} (h : OkL l) : impl_StoreEntries_need l = true ∧ impl_StoreEntries l = (cat l, true) := by
  obtain ⟨a1, a2⟩ := are_ok h.okV
  have h16 := h.2.2
  have eta : ∀ x : Entry, (⟨x.Name, x.Mass, ⟨x.Orb.Long, x.Orb.Round, x.Orb.Tilt, x.Orb.Node, x.Orb.Peri, x.Orb.Phase⟩⟩ : Entry) = x := fun _ => rfl
  obtain ⟨b1, b2⟩ := loop_post (step := impl_StoreEntries_loop0_step (l, ((l.length : Nat) : Int))) (fun s => ∃ i : Nat, i ≤ l.length ∧ s = (cat (l.take i), (i : Int))) (fun s => l.length - s.2.toNat) (fun r => r = cat l) (by
    rintro s ⟨i, hi, rfl⟩
    rcases Nat.lt_or_ge i l.length with hlt | hge
    · have hg := h.1 _ (getD_mem (d := (default : Entry)) hlt)
      have hsl := st_length hg
      have hn8 := (entry_facts hg.1).2.1
      have hcl := cat_le (l := l.take i) fun x hx => h.1 x (List.mem_of_mem_take hx)
      rw [List.length_take] at hcl
      have d : decide ((cat (l.take i)).length + (impl_storeEntry (l.getD i default)).length ≤ 9223372036854775807) = true := decide_eq_true (by omega)
      refine ⟨.inl (cat (l.take (i + 1)), ((i + 1 : Nat) : Int)), [], ?_, ⟨i + 1, hlt, rfl⟩, ?_⟩
      · unfold impl_StoreEntries_loop0_step
        rw [take_next (d := default) hlt, cat_app, cat_one]
        simp only [DT.get, nat_dec hlt, nat_ge, Bool.and_self, Int.toNat_natCast, eta, (st_form hg).1, d, nat_next hlt (by omega)]
      · show l.length - ((i + 1 : Nat) : Int).toNat < l.length - ((i : Nat) : Int).toNat
        rw [Int.toNat_natCast, Int.toNat_natCast]
        omega
    · have he : i = l.length := Nat.le_antisymm hi hge
      subst he
      refine ⟨.inr (cat l), [], ?_, rfl⟩
      unfold impl_StoreEntries_loop0_step
      simp only [DT.get, nat_not, List.take_length]) ([], 0) ⟨0, Nat.zero_le _, rfl⟩
  have b1 : impl_StoreEntries_loop0_ends (l, ((l.length : Nat) : Int)) ([], 0) = true := b1
  have b2 : impl_StoreEntries_loop0 (l, ((l.length : Nat) : Int)) ([], 0) = cat l := b2
  have key : (impl_StoreEntries_tree l).get = some (cat l, true) := by
    unfold impl_StoreEntries_tree
    simp only [DT.get, a1, a2, Bool.not_true, b1, b2]
  exact DT.of_get key

end Go.Proofs.Ytnmeiodaeaabfaa
