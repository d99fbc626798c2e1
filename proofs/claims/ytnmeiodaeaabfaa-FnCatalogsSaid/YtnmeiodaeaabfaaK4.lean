/- The law of catalogs, part 4: what is recovered. -/
import Derived.Test.YtnmeiodaeaabfaaK3
namespace Go.Proofs.Ytnmeiodaeaabfaa
set_option linter.unusedVariables false
set_option linter.unusedSimpArgs false

/-! ## Facts of valid entries -/

theorem validO_nums {o : Orbit} (hv : validO o = true) : isNum .f32 o.Long = true ∧ isNum .f32 o.Round = true ∧ isNum .f32 o.Tilt = true ∧ isNum .f32 o.Node = true ∧ isNum .f32 o.Peri = true ∧ isNum .f32 o.Phase = true := by
  unfold validO at hv
  simp only [Bool.and_eq_true] at hv
  obtain ⟨h1, h2, ⟨h3, h4⟩, h5, h6, h7⟩ := hv
  refine ⟨h1, h2, num_between consts32.1 consts32.2.2.1 h3 (.inr h4), turn_num h5, turn_num h6, ?_⟩
  cases hg : fgt .f32 o.Long 0 with
  | true =>
    rw [hg] at h7
    simp only [Bool.and_eq_true] at h7
    exact turn_num h7.2.2
  | false =>
    rw [hg] at h7
    simp only [Bool.and_eq_true] at h7
    exact num_between consts32.2.2.2.1 consts32.2.2.2.2 h7.2.2.1 (.inr h7.2.2.2)

theorem above_num {x : Nat} (h : spec_l02Above x = true) : isNum .f32 x = true := by
  unfold spec_l02Above spec_l02Above_tree at h
  simp only [l01Finite_eq] at h
  cases hn : isNum .f32 x with
  | true => rfl
  | false => rw [hn] at h; exact h

theorem name_len {s : List UInt8} (h : spec_l07Name s = true) : 1 ≤ s.length ∧ s.length ≤ 8 := by
  unfold spec_l07Name spec_l07Name_tree at h
  generalize spec_l07Name_loop0 s 0 = r at h
  simp only [DT.val] at h
  cases h1 : isL r with
  | true => rw [h1] at h; cases h
  | false =>
    rw [h1] at h
    cases h2 : decide (((s.length : Nat) : Int) ≥ 1) with
    | false => rw [h2] at h; cases h
    | true =>
      rw [h2] at h
      have h3 := of_decide_eq_true h
      have h2 := of_decide_eq_true h2
      omega

theorem entry_facts {e : Entry} (h : spec_l07Entry e = true) : 1 ≤ e.Name.length ∧ e.Name.length ≤ 8 ∧ ∀ x ∈ numsE e, isNum .f32 x = true := by
  unfold spec_l07Entry spec_l07Entry_tree at h
  cases h1 : spec_l07Name e.Name with
  | false => rw [h1] at h; cases h
  | true =>
    rw [h1] at h
    cases h2 : spec_l02Above e.Mass with
    | false => rw [h2] at h; cases h
    | true =>
      rw [h2] at h
      have h : spec_l03Is (⟨e.Orb.Long, e.Orb.Round, e.Orb.Tilt, e.Orb.Node, e.Orb.Peri, e.Orb.Phase⟩ : Orbit) = true := h
      rw [l03Is_eq] at h
      obtain ⟨a1, a2, a3, a4, a5, a6⟩ := validO_nums h
      obtain ⟨n1, n2⟩ := name_len h1
      refine ⟨n1, n2, fun x hx => ?_⟩
      unfold numsE at hx
      simp only [List.mem_cons, List.not_mem_nil, or_false] at hx
      rcases hx with rfl | rfl | rfl | rfl | rfl | rfl | rfl
      · exact above_num h2
      all_goals assumption

/-- An entry that is valid, its numbers words. -/
def GoodE (e : Entry) : Prop := spec_l07Entry e = true ∧ wordsE e

theorem GoodE.fin {e : Entry} (h : GoodE e) : finE e := by
  intro x hx
  refine ⟨(entry_facts h.1).2.2 x hx, ?_⟩
  obtain ⟨w1, w2, w3, w4, w5, w6, w7⟩ := h.2
  unfold numsE at hx
  simp only [List.mem_cons, List.not_mem_nil, or_false] at hx
  rcases hx with rfl | rfl | rfl | rfl | rfl | rfl | rfl <;> assumption

theorem getD_app {α : Type} {d : α} (pre l : List α) (j : Nat) : (pre ++ l).getD (pre.length + j) d = l.getD j d := by
  rw [List.getD_eq_getElem?_getD, List.getD_eq_getElem?_getD, List.getElem?_append_right (by omega), Nat.add_sub_cancel_left]

theorem byte_nat (n : Nat) : (UInt8.ofNat (n % 256)).toNat = n % 256 := by
  simp

theorem word_four (pre post : List UInt8) {x : Nat} (hx : isNum .f32 x = true) (hx2 : x < 2 ^ 32) {q : Nat} (hq : pre.length = q) : wordAt (pre ++ (four x ++ post)) q = x := by
  subst hq
  have e : sumAt (pre ++ (four x ++ post)) pre.length = x := by
    unfold sumAt
    have h0 := getD_app (d := (0 : UInt8)) pre (four x ++ post) 0
    rw [Nat.add_zero] at h0
    rw [h0, getD_app, getD_app, getD_app]
    unfold four
    simp only [List.cons_append, List.nil_append, List.getD_cons_zero, List.getD_cons_succ, byte_nat]
    omega
  unfold wordAt
  rw [e]
  exact canon_num' hx

theorem entry_back (e : Entry) (hf : finE e) (h5 : List UInt8) (h : h5.length = 5) (t : List UInt8) : entryAt (h5 ++ (e.Name ++ ((numsE e).flatMap four ++ t))) e.Name.length = e := by
  have hl : ∀ x, (four x).length = 4 := fun _ => rfl
  have hn : ∀ x, x ∈ numsE e → isNum .f32 x = true ∧ x < 2 ^ 32 := hf
  unfold numsE at hn
  obtain ⟨m, o⟩ : (∀ x ∈ [e.Mass], isNum .f32 x = true ∧ x < 2 ^ 32) ∧ True := ⟨fun x hx => hn x (by simp at hx; simp [hx]), trivial⟩
  have hn0 := hn e.Mass (by simp)
  have hn1 := hn e.Orb.Long (by simp)
  have hn2 := hn e.Orb.Round (by simp)
  have hn3 := hn e.Orb.Tilt (by simp)
  have hn4 := hn e.Orb.Node (by simp)
  have hn5 := hn e.Orb.Peri (by simp)
  have hn6 := hn e.Orb.Phase (by simp)
  obtain ⟨S, hS⟩ : ∃ S, S = h5 ++ (e.Name ++ ((numsE e).flatMap four ++ t)) := ⟨_, rfl⟩
  have w0 : wordAt S (5 + e.Name.length) = e.Mass := by
    have := word_four (h5 ++ e.Name) (four e.Orb.Long ++ (four e.Orb.Round ++ (four e.Orb.Tilt ++ (four e.Orb.Node ++ (four e.Orb.Peri ++ (four e.Orb.Phase ++ t)))))) hn0.1 hn0.2 (q := 5 + e.Name.length) (by simp [h])
    rw [← this, hS]; congr 1; simp [numsE, List.append_assoc]
  have w1 : wordAt S (5 + e.Name.length + 4) = e.Orb.Long := by
    have := word_four (h5 ++ e.Name ++ four e.Mass) (four e.Orb.Round ++ (four e.Orb.Tilt ++ (four e.Orb.Node ++ (four e.Orb.Peri ++ (four e.Orb.Phase ++ t))))) hn1.1 hn1.2 (q := 5 + e.Name.length + 4) (by simp [h, hl]; try omega)
    rw [← this, hS]; congr 1; simp [numsE, List.append_assoc]
  have w2 : wordAt S (5 + e.Name.length + 8) = e.Orb.Round := by
    have := word_four (h5 ++ e.Name ++ four e.Mass ++ four e.Orb.Long) (four e.Orb.Tilt ++ (four e.Orb.Node ++ (four e.Orb.Peri ++ (four e.Orb.Phase ++ t)))) hn2.1 hn2.2 (q := 5 + e.Name.length + 8) (by simp [h, hl]; try omega)
    rw [← this, hS]; congr 1; simp [numsE, List.append_assoc]
  have w3 : wordAt S (5 + e.Name.length + 12) = e.Orb.Tilt := by
    have := word_four (h5 ++ e.Name ++ four e.Mass ++ four e.Orb.Long ++ four e.Orb.Round) (four e.Orb.Node ++ (four e.Orb.Peri ++ (four e.Orb.Phase ++ t))) hn3.1 hn3.2 (q := 5 + e.Name.length + 12) (by simp [h, hl]; try omega)
    rw [← this, hS]; congr 1; simp [numsE, List.append_assoc]
  have w4 : wordAt S (5 + e.Name.length + 16) = e.Orb.Node := by
    have := word_four (h5 ++ e.Name ++ four e.Mass ++ four e.Orb.Long ++ four e.Orb.Round ++ four e.Orb.Tilt) (four e.Orb.Peri ++ (four e.Orb.Phase ++ t)) hn4.1 hn4.2 (q := 5 + e.Name.length + 16) (by simp [h, hl]; try omega)
    rw [← this, hS]; congr 1; simp [numsE, List.append_assoc]
  have w5 : wordAt S (5 + e.Name.length + 20) = e.Orb.Peri := by
    have := word_four (h5 ++ e.Name ++ four e.Mass ++ four e.Orb.Long ++ four e.Orb.Round ++ four e.Orb.Tilt ++ four e.Orb.Node) (four e.Orb.Phase ++ t) hn5.1 hn5.2 (q := 5 + e.Name.length + 20) (by simp [h, hl]; try omega)
    rw [← this, hS]; congr 1; simp [numsE, List.append_assoc]
  have w6 : wordAt S (5 + e.Name.length + 24) = e.Orb.Phase := by
    have := word_four (h5 ++ e.Name ++ four e.Mass ++ four e.Orb.Long ++ four e.Orb.Round ++ four e.Orb.Tilt ++ four e.Orb.Node ++ four e.Orb.Peri) t hn6.1 hn6.2 (q := 5 + e.Name.length + 24) (by simp [h, hl]; try omega)
    rw [← this, hS]; congr 1; simp [numsE, List.append_assoc]
  have hname : (S.take (5 + e.Name.length)).drop 5 = e.Name := by
    rw [hS, ← List.append_assoc, List.take_left' (by simp [h]), List.drop_left' h]
  rw [← hS]
  unfold entryAt
  rw [w0, w1, w2, w3, w4, w5, w6, hname]

theorem st_form {e : Entry} (h : GoodE e) : impl_storeEntry_need e = true ∧ ∃ t : List UInt8, t.length = 2 ∧ impl_storeEntry e = [79, 82, 66, 49, UInt8.ofNat e.Name.length] ++ (e.Name ++ ((numsE e).flatMap four ++ t)) :=
  store_form e h.2 h.fin (entry_facts h.1).2.1

theorem flat_four_length : ∀ l : List Nat, (l.flatMap four).length = 4 * l.length
  | [] => rfl
  | a :: l => by
    rw [List.flatMap_cons, List.length_append, flat_four_length l, List.length_cons]
    show 4 + _ = _
    omega

theorem st_length {e : Entry} (h : GoodE e) : (impl_storeEntry e).length = 35 + e.Name.length := by
  obtain ⟨_, t, ht, hs⟩ := st_form h
  rw [hs]
  simp only [List.length_append, flat_four_length, ht]
  show 5 + (e.Name.length + (4 * 7 + 2)) = _
  omega

theorem st_four {e : Entry} (h : GoodE e) (rest : List UInt8) : ((impl_storeEntry e ++ rest).getD 4 0).toNat = e.Name.length := by
  obtain ⟨_, t, ht, hs⟩ := st_form h
  have hl := (entry_facts h.1).2.1
  rw [hs]
  have e0 : ∀ x : List UInt8, ([79, 82, 66, 49, UInt8.ofNat e.Name.length] ++ x).getD 4 0 = UInt8.ofNat e.Name.length := fun _ => rfl
  rw [List.append_assoc, e0]
  have := byte_nat e.Name.length
  rw [Nat.mod_eq_of_lt (by omega)] at this
  exact this

theorem load_st {e : Entry} (h : GoodE e) (rest : List UInt8) (hl : (impl_storeEntry e ++ rest).length ≤ 2 ^ 40) : impl_loadFirst_need (impl_storeEntry e ++ rest) = true ∧ impl_loadFirst (impl_storeEntry e ++ rest) = (e, ((35 + e.Name.length : Nat) : Int), true) := by
  obtain ⟨h1, h2⟩ := load_first _ hl
  refine ⟨h1, ?_⟩
  have hlen := st_length h
  have hall : (impl_storeEntry e ++ rest).length = 35 + e.Name.length + rest.length := by rw [List.length_append, hlen]
  have hback : entryAt (impl_storeEntry e ++ rest) e.Name.length = e := by
    obtain ⟨_, t, ht, hs⟩ := st_form h
    rw [hs, List.append_assoc, List.append_assoc, List.append_assoc]
    exact entry_back e h.fin _ rfl _
  rw [st_four h rest, hback, List.take_left' hlen, decide_eq_false (by omega), decide_eq_false (by omega), h.1, beq_self_eq_true] at h2
  exact h2

theorem load_cut {e : Entry} (h : GoodE e) {c : Nat} (hc : c < (impl_storeEntry e).length) : (impl_loadFirst ((impl_storeEntry e).take c)).2.2 = false := by
  have hlen := st_length h
  have hl8 := (entry_facts h.1).2.1
  have hs : ((impl_storeEntry e).take c).length = c := by rw [List.length_take]; omega
  obtain ⟨_, h2⟩ := load_first ((impl_storeEntry e).take c) (by omega)
  rw [hs] at h2
  rcases Nat.lt_or_ge c 5 with h5 | h5
  · rw [decide_eq_true h5, Bool.true_or] at h2
    rw [h2]
  · have h4 : (((impl_storeEntry e).take c).getD 4 0).toNat = e.Name.length := by
      rw [getD_take _ _ _ _ (by omega)]
      have := st_four h []
      rw [List.append_nil] at this
      exact this
    rw [h4, decide_eq_true (p := c < 35 + e.Name.length) (by omega), Bool.or_true] at h2
    rw [h2]

theorem first_ok (q : List UInt8) (hs : q.length ≤ 2 ^ 40) : impl_loadFirst_need q = true ∧ (impl_loadFirst q = (noE, 0, false) ∨ ∃ e : Entry, ∃ n : Nat, impl_loadFirst q = (e, ((35 + n : Nat) : Int), true) ∧ 35 + n ≤ q.length ∧ GoodE e ∧ impl_storeEntry e = q.take (35 + n)) := by
  obtain ⟨f1, f2⟩ := load_first q hs
  refine ⟨f1, ?_⟩
  cases hc : (decide (q.length < 5) || decide (q.length < 35 + (q.getD 4 0).toNat)) with
  | true => rw [hc] at f2; exact .inl f2
  | false =>
    rw [hc] at f2
    rw [Bool.or_eq_false_iff, decide_eq_false_iff_not, decide_eq_false_iff_not] at hc
    have f2 : impl_loadFirst q = told (spec_l07Entry (entryAt q (q.getD 4 0).toNat)) (impl_storeEntry (entryAt q (q.getD 4 0).toNat) == q.take (35 + (q.getD 4 0).toNat)) (entryAt q (q.getD 4 0).toNat) ((35 + (q.getD 4 0).toNat : Nat) : Int) := f2
    rw [f2]
    cases hv : spec_l07Entry (entryAt q (q.getD 4 0).toNat) with
    | false => exact .inl rfl
    | true =>
      cases hb : (impl_storeEntry (entryAt q (q.getD 4 0).toNat) == q.take (35 + (q.getD 4 0).toNat)) with
      | false => exact .inl rfl
      | true => exact .inr ⟨_, (q.getD 4 0).toNat, rfl, by omega, ⟨hv, entryAt_words _ _⟩, beq_iff_eq.1 hb⟩

/-! ## Lists of entries -/

noncomputable def cat (l : List Entry) : List UInt8 := l.flatMap impl_storeEntry

def lessLast (l : List Entry) (e : Entry) : Bool := decide (l.length = 0) || Op.bytesLess (l.getD (l.length - 1) default).Name e.Name
def ascE (l : List Entry) : Prop := ∀ i, i + 1 < l.length → Op.bytesLess (l.getD i default).Name (l.getD (i + 1) default).Name = true
def OkL (l : List Entry) : Prop := (∀ e ∈ l, GoodE e) ∧ ascE l ∧ l.length ≤ 16

theorem cat_app (l m : List Entry) : cat (l ++ m) = cat l ++ cat m := List.flatMap_append
theorem cat_one (e : Entry) : cat [e] = impl_storeEntry e := by unfold cat; simp
theorem cat_cons (e : Entry) (l : List Entry) : cat (e :: l) = impl_storeEntry e ++ cat l := rfl

theorem split_at {α : Type} {l : List α} {j : Nat} {d : α} (h : j < l.length) : l = l.take j ++ l.getD j d :: l.drop (j + 1) := by
  rw [List.getD_eq_getElem?_getD, List.getElem?_eq_getElem h, Option.getD_some, ← List.drop_eq_getElem_cons h, List.take_append_drop]

theorem cat_drop {l : List Entry} {j : Nat} (h : j < l.length) (rest : List UInt8) : (cat l ++ rest).drop (cat (l.take j)).length = impl_storeEntry (l.getD j default) ++ (cat (l.drop (j + 1)) ++ rest) := by
  have e : cat l ++ rest = cat (l.take j) ++ (impl_storeEntry (l.getD j default) ++ (cat (l.drop (j + 1)) ++ rest)) := by
    have := congrArg cat (split_at (d := default) h)
    rw [this, cat_app, cat_cons]
    simp only [List.append_assoc]
  rw [e, List.drop_left' rfl]

theorem cat_le : ∀ {l : List Entry}, (∀ e ∈ l, GoodE e) → (cat l).length ≤ 43 * l.length
  | [], _ => Nat.le_refl _
  | a :: l, h => by
    have h1 := st_length (h a (List.mem_cons_self ..))
    have h2 := (entry_facts (h a (List.mem_cons_self ..)).1).2.1
    have h3 := cat_le (l := l) fun x hx => h x (List.mem_cons_of_mem _ hx)
    rw [cat_cons, List.length_append, h1, List.length_cons]
    omega

theorem asc_app {l : List Entry} {e : Entry} (h : ascE l) (hl : lessLast l e = true) : ascE (l ++ [e]) := by
  intro i hi
  rw [List.length_append] at hi
  have hi : i + 1 < l.length + 1 := hi
  have g : ∀ k, k < l.length → (l ++ [e]).getD k default = l.getD k default := fun k hk => by
    rw [List.getD_eq_getElem?_getD, List.getD_eq_getElem?_getD, List.getElem?_append_left hk]
  rcases Nat.lt_or_ge (i + 1) l.length with h1 | h1
  · rw [g i (by omega), g (i + 1) h1]
    exact h i h1
  · have he : i + 1 = l.length := by omega
    have g2 : (l ++ [e]).getD (i + 1) default = e := by
      have := getD_app (d := (default : Entry)) l [e] 0
      rw [Nat.add_zero, ← he] at this
      exact this
    rw [g i (by omega), g2]
    unfold lessLast at hl
    rw [decide_eq_false (by omega), Bool.false_or] at hl
    rw [show i = l.length - 1 from by omega]
    exact hl

theorem asc_last {l : List Entry} (h : ascE l) {j : Nat} (hj : j < l.length) : lessLast (l.take j) (l.getD j default) = true := by
  unfold lessLast
  have hl : (l.take j).length = j := by rw [List.length_take]; omega
  rw [hl]
  rcases Nat.eq_zero_or_pos j with h0 | h0
  · rw [decide_eq_true h0, Bool.true_or]
  · rw [getD_take _ _ _ _ (by omega)]
    have := h (j - 1) (by omega)
    rw [show j - 1 + 1 = j from by omega] at this
    rw [this, Bool.or_true]

/-! ## Recovery -/

def recF (q : Entry × Int × Bool) (i : Nat) (l : List Entry) : (Int × List Entry) ⊕ (Int × List Entry) :=
  if l.length < 16 then (match q.2.2 with
    | true => (match lessLast l q.1 with
      | true => .inl ((i : Int) + q.2.1, l ++ [q.1])
      | false => .inr ((i : Int), l))
    | false => .inr ((i : Int), l)) else .inr ((i : Int), l)

theorem rec_step (p : List UInt8) (hp : p.length ≤ 2 ^ 40) (i : Nat) (l : List Entry) (hi : i ≤ p.length) (hl : l.length ≤ 16) : ∃ fl, (impl_RecoverEntries_loop0_step p ((i : Int), l)).get = some (recF (impl_loadFirst (p.drop i)) i l, fl) := by
  unfold impl_RecoverEntries_loop0_step recF
  rcases Nat.lt_or_ge l.length 16 with hlt | hge
  · have e1 : decide (((l.length : Nat) : Int) < 16) = true := decide_eq_true (by omega)
    have e2 : (decide (0 ≤ (i : Int)) && decide ((i : Int) ≤ (((p.length) : Nat) : Int))) = true := by
      rw [decide_eq_true (p := (0 : Int) ≤ (i : Int)) (by omega), decide_eq_true (by omega)]; rfl
    have hq : ((p.take p.length).drop (Int.toNat (i : Int))) = p.drop i := by rw [List.take_length, Int.toNat_natCast]
    have hql : (p.drop i).length = p.length - i := List.length_drop
    obtain ⟨f1, hf⟩ := first_ok (p.drop i) (by omega)
    rw [if_pos hlt, DT.get_yes e1, DT.get_need e2, hq, DT.get_need f1]
    rcases hf with hf | ⟨e, n, hf, hn, _, _⟩
    · rw [hf]
      exact ⟨[0], rfl⟩
    · rw [hf, DT.get_no (c := !true) rfl]
      have ew : IntKind.wrap .i64 ((i : Int) + ((35 + n : Nat) : Int)) = (i : Int) + ((35 + n : Nat) : Int) := wrap_small (by omega) (by omega)
      have en : ∀ x : Entry, (decide ((l.length + [x].length) * 48 ≤ 140737488355328) && decide (l.length + [x].length ≤ 9223372036854775807)) = true := by
        intro x
        show (decide ((l.length + 1) * 48 ≤ 140737488355328) && decide (l.length + 1 ≤ 9223372036854775807)) = true
        rw [decide_eq_true (by omega), decide_eq_true (by omega)]; rfl
      rcases Nat.eq_zero_or_pos l.length with h5 | h5
      · have e5 : decide (((l.length : Nat) : Int) > 0) = false := decide_eq_false (by omega)
        rw [DT.get_no e5, DT.get_need (en _)]
        simp only [ew]
        have hL : lessLast l e = true := by unfold lessLast; rw [decide_eq_true h5, Bool.true_or]
        rw [hL]
        exact ⟨_, rfl⟩
      · have e5 : decide (((l.length : Nat) : Int) > 0) = true := decide_eq_true (by omega)
        have e6 : IntKind.wrap .i64 (((l.length : Nat) : Int) - 1) = ((l.length - 1 : Nat) : Int) := by rw [wrap_small (by omega) (by omega)]; omega
        have e7 : (decide (0 ≤ ((l.length - 1 : Nat) : Int)) && decide (((l.length - 1 : Nat) : Int) < ((l.length : Nat) : Int))) = true := nat_in (by omega)
        have e8 : decide (l.length - 1 < l.length) = true := decide_eq_true (by omega)
        have hL : lessLast l e = Op.bytesLess (l.getD (l.length - 1) default).Name e.Name := by unfold lessLast; rw [decide_eq_false (by omega), Bool.false_or]
        rw [DT.get_yes e5]
        simp only [e6]
        rw [DT.get_need e7]
        simp only [Int.toNat_natCast]
        rw [DT.get_need e8, hL]
        cases Op.bytesLess (l.getD (l.length - 1) default).Name e.Name with
        | false => exact ⟨[0], rfl⟩
        | true =>
          rw [DT.get_no (c := !true) rfl, DT.get_need (en _)]
          simp only [ew]
          exact ⟨_, rfl⟩
  · have e1 : decide (((l.length : Nat) : Int) < 16) = false := decide_eq_false (by omega)
    rw [if_neg (by omega), DT.get_no e1]
    exact ⟨_, rfl⟩

theorem rec_tree {p : List UInt8} {r : Int × List Entry} (h1 : impl_RecoverEntries_loop0_ends p (0, []) = true) (h2 : impl_RecoverEntries_loop0 p (0, []) = r) : impl_RecoverEntries_need p = true ∧ impl_RecoverEntries p = (r.2, r.1, true) := by
  have key : (impl_RecoverEntries_tree p).get = some (r.2, r.1, true) := by
    unfold impl_RecoverEntries_tree
    simp only [DT.get, h1, h2]
  exact DT.of_get key

/-- What stands whole is recovered, and nothing of what is dead. -/
theorem rec_dead {l : List Entry} (hl : OkL l) (rest : List UInt8) (hp : (cat l ++ rest).length ≤ 2 ^ 40) (hd : (impl_loadFirst rest).2.2 = false) : impl_RecoverEntries_need (cat l ++ rest) = true ∧ impl_RecoverEntries (cat l ++ rest) = (l, (((cat l).length : Nat) : Int), true) := by
  obtain ⟨p, hpp⟩ : ∃ p, p = cat l ++ rest := ⟨_, rfl⟩
  have hplen : p.length = (cat l).length + rest.length := by rw [hpp, List.length_append]
  rw [← hpp] at hp ⊢
  have key := loop_post (step := impl_RecoverEntries_loop0_step p) (fun s => ∃ j : Nat, j ≤ l.length ∧ s = ((((cat (l.take j)).length : Nat) : Int), l.take j)) (fun s => l.length - s.2.length) (fun r => r = ((((cat l).length : Nat) : Int), l)) (by
    rintro s ⟨j, hj, rfl⟩
    have hjl : (l.take j).length = j := by rw [List.length_take]; omega
    have hle : (cat (l.take j)).length ≤ (cat l).length := by
      have := congrArg (fun x => (cat x).length) (List.take_append_drop j l)
      simp only [cat_app, List.length_append] at this
      omega
    obtain ⟨fl, hst⟩ := rec_step p hp (cat (l.take j)).length (l.take j) (by omega) (by have := hl.2.2; omega)
    refine ⟨_, fl, hst, ?_⟩
    unfold recF
    rw [hjl]
    rcases Nat.lt_or_ge j l.length with hlt | hge
    · rw [if_pos (by have := hl.2.2; omega), hpp, cat_drop hlt]
      have hq : (impl_storeEntry (l.getD j default) ++ (cat (l.drop (j + 1)) ++ rest)).length ≤ 2 ^ 40 := by
        rw [← cat_drop hlt, ← hpp, List.length_drop]; omega
      have hgood := hl.1 _ (getD_mem (d := (default : Entry)) hlt)
      obtain ⟨_, g2⟩ := load_st hgood _ hq
      rw [g2]
      simp only [asc_last hl.2.1 hlt]
      refine ⟨⟨j + 1, hlt, ?_⟩, ?_⟩
      · rw [take_next (d := default) hlt, cat_app, cat_one, List.length_append, st_length hgood]
        congr 1
      · show l.length - (l.take j ++ [l.getD j default]).length < l.length - j
        rw [List.length_append, hjl]
        show l.length - (j + 1) < _
        omega
    · have he : j = l.length := Nat.le_antisymm hj hge
      subst he
      rw [List.take_length]
      have hdr : p.drop (cat l).length = rest := by rw [hpp, List.drop_left' rfl]
      rw [hdr, hd]
      by_cases h16 : l.length < 16
      · rw [if_pos h16]
      · rw [if_neg h16]) (0, []) ⟨0, Nat.zero_le _, rfl⟩
  exact rec_tree key.1 key.2

/-- What stands whole is recovered, and what is recovered stands there. -/
theorem rec_live {l : List Entry} (hl : OkL l) (rest : List UInt8) (hp : (cat l ++ rest).length ≤ 2 ^ 40) :
    impl_RecoverEntries_need (cat l ++ rest) = true ∧ ∃ l' : List Entry, ∃ o : Nat, impl_RecoverEntries (cat l ++ rest) = (l', (o : Int), true) ∧ o ≤ (cat l ++ rest).length ∧ OkL l' ∧ cat l' = (cat l ++ rest).take o ∧ l.length ≤ l'.length := by
  obtain ⟨p, hpp⟩ : ∃ p, p = cat l ++ rest := ⟨_, rfl⟩
  have hplen : p.length = (cat l).length + rest.length := by rw [hpp, List.length_append]
  rw [← hpp] at hp ⊢
  have key := loop_post (step := impl_RecoverEntries_loop0_step p) (fun s => ∃ o : Nat, s.1 = (o : Int) ∧ o ≤ p.length ∧ OkL s.2 ∧ cat s.2 = p.take o ∧ (s.2.length < l.length → s.2 = l.take s.2.length)) (fun s => 16 - s.2.length)
    (fun r => ∃ o : Nat, r.1 = (o : Int) ∧ o ≤ p.length ∧ OkL r.2 ∧ cat r.2 = p.take o ∧ l.length ≤ r.2.length) (by
    rintro ⟨k, m⟩ ⟨o, hk, ho, hm, hc, ht⟩
    simp only at hk hm hc ht
    subst hk
    obtain ⟨fl, hst⟩ := rec_step p hp o m ho hm.2.2
    refine ⟨_, fl, hst, ?_⟩
    have hqlen : (p.drop o).length = p.length - o := List.length_drop
    have hclen : (cat m).length = o := by rw [hc, List.length_take]; omega
    unfold recF
    rcases Nat.lt_or_ge m.length l.length with hlt | hge
    · have hmt := ht hlt
      rw [if_pos (by have := hl.2.2; omega)]
      have hdr : p.drop o = impl_storeEntry (l.getD m.length default) ++ (cat (l.drop (m.length + 1)) ++ rest) := by
        rw [hpp, ← cat_drop hlt, ← hmt, hclen]
      have hgood := hl.1 _ (getD_mem (d := (default : Entry)) hlt)
      obtain ⟨_, g2⟩ := load_st hgood (cat (l.drop (m.length + 1)) ++ rest) (by rw [← hdr]; omega)
      rw [hdr, g2]
      have hL := asc_last hl.2.1 hlt
      rw [← hmt] at hL
      simp only [hL]
      have hmn : m ++ [l.getD m.length default] = l.take (m.length + 1) := by rw [take_next (d := default) hlt, ← hmt]
      have hsl := st_length hgood
      have hle : o + (35 + (l.getD m.length default).Name.length) ≤ p.length := by
        have := congrArg List.length hdr
        rw [hqlen, List.length_append, hsl] at this
        omega
      refine ⟨⟨o + (35 + (l.getD m.length default).Name.length), by omega, hle, ⟨?_, asc_app hm.2.1 hL, ?_⟩, ?_, ?_⟩, ?_⟩
      · intro x hx
        rcases List.mem_append.1 hx with hx | hx
        · exact hm.1 x hx
        · rw [List.mem_singleton.1 hx]; exact hgood
      · rw [List.length_append]
        show m.length + 1 ≤ 16
        have := hl.2.2
        omega
      · rw [cat_app, cat_one, hc, List.take_add, hdr, List.take_left' hsl]
      · intro _
        rw [hmn, List.length_take]
        rw [Nat.min_eq_left (by omega)]
      · show 16 - (m ++ [_]).length < 16 - m.length
        rw [List.length_append]
        show 16 - (m.length + 1) < _
        have := hl.2.2
        omega
    · have hend : ∃ o' : Nat, ((o : Nat) : Int) = (o' : Int) ∧ o' ≤ p.length ∧ OkL m ∧ cat m = p.take o' ∧ l.length ≤ m.length := ⟨o, rfl, ho, hm, hc, hge⟩
      by_cases h16 : m.length < 16
      · rw [if_pos h16]
        obtain ⟨_, hf⟩ := first_ok (p.drop o) (by omega)
        rcases hf with hf | ⟨e, n, hf, hn, hg, hse⟩
        · rw [hf]; exact hend
        · rw [hf]
          cases hL : lessLast m e with
          | false => simp only [hL]; exact hend
          | true =>
            simp only [hL]
            refine ⟨⟨o + (35 + n), by omega, by omega, ⟨?_, asc_app hm.2.1 hL, ?_⟩, ?_, ?_⟩, ?_⟩
            · intro x hx
              rcases List.mem_append.1 hx with hx | hx
              · exact hm.1 x hx
              · rw [List.mem_singleton.1 hx]; exact hg
            · rw [List.length_append]
              show m.length + 1 ≤ 16
              omega
            · rw [cat_app, cat_one, hc, List.take_add, hse]
            · intro hlt
              rw [List.length_append] at hlt
              have hlt : m.length + 1 < l.length := hlt
              omega
            · show 16 - (m ++ [_]).length < 16 - m.length
              rw [List.length_append]
              show 16 - (m.length + 1) < _
              omega
      · rw [if_neg h16]
        exact hend) (0, []) ⟨0, rfl, Nat.zero_le _, ⟨fun _ h => absurd h (List.not_mem_nil), fun i hi => absurd hi (Nat.not_lt_zero _), Nat.zero_le _⟩, rfl, fun _ => rfl⟩
  obtain ⟨k1, o, k2, k3, k4, k5, k6⟩ := key
  have k1 : impl_RecoverEntries_loop0_ends p (0, []) = true := k1
  obtain ⟨t1, t2⟩ := rec_tree k1 rfl
  refine ⟨t1, (impl_RecoverEntries_loop0 p (0, [])).2, o, ?_, k3, k4, k5, k6⟩
  rw [t2]
  have k2 : (impl_RecoverEntries_loop0 p (0, [])).1 = (o : Int) := k2
  rw [k2]

end Go.Proofs.Ytnmeiodaeaabfaa
