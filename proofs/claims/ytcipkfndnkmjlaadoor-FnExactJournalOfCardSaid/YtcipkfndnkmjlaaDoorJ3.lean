/- Plain law of JournalOf: the program's journal is the reference's. -/
import Derived.Test.YtcipkfndnkmjlaaDoorGk
import Derived.Test.YtcipkfndnkmjlaaDoorEngX
import Derived.Test.YtcipkfndnkmjlaaDoorEngY
namespace Go.Proofs.YtcipkfndnkmjlaaDoor
set_option linter.unusedVariables false
set_option linter.unusedSimpArgs false

/-! ## Journals -/

def clean (l : List UInt8) : Bool := !l.contains 10
def sumL : List (List UInt8) → Nat
  | [] => 0
  | l :: r => l.length + 3 + sumL r
noncomputable def jtext : List (List UInt8) → Int → List UInt8
  | [], _ => []
  | l :: r, n => lineJ (impl_check n l) l ++ jtext r (impl_check n l)

theorem check_small {l : List UInt8} (hl : l.length ≤ 2 ^ 40) {n : Int} (h0 : 0 ≤ n) (h1 : n < 65003) : 0 ≤ impl_check n l ∧ impl_check n l < 65003 := by
  obtain ⟨_, _, c3, c4, c5⟩ := check_same l (Nat.le_trans hl (by decide)) n h0 h1
  rw [c3]
  exact ⟨c4, c5⟩

theorem jtext_len : ∀ (ls : List (List UInt8)) (n : Int), 0 ≤ n → n < 65003 → (∀ l ∈ ls, l.length ≤ 2 ^ 40) → sumL ls ≤ (jtext ls n).length
  | [], _, _, _, _ => Nat.le_refl _
  | l :: r, n, h0, h1, hl => by
    obtain ⟨c4, c5⟩ := check_small (hl l (List.mem_cons_self ..)) h0 h1
    have ih := jtext_len r (impl_check n l) c4 c5 fun x hx => hl x (List.mem_cons_of_mem _ hx)
    have hd := (decimal_len _ c4 c5).1
    unfold sumL jtext
    rw [List.length_append, lineJ_len]
    omega

theorem jrun_eq : ∀ (ls : List (List UInt8)) (n : Int) (t : List UInt8), 0 ≤ n → n < 65003 → (∀ l ∈ ls, l.length ≤ 2 ^ 40) → jrun ls n t = bif ls.all clean && decide ((t ++ jtext ls n).length ≤ 16000) then (t ++ jtext ls n, true) else ([], false)
  | [], n, t, _, _, _ => by
    unfold jrun jtext
    rw [List.append_nil, List.all_nil, Bool.true_and]
    by_cases h : 16000 < t.length
    · rw [decide_eq_true h, decide_eq_false (by omega)]; rfl
    · rw [decide_eq_false h, decide_eq_true (by omega)]; rfl
  | l :: r, n, t, h0, h1, hl => by
    obtain ⟨c4, c5⟩ := check_small (hl l (List.mem_cons_self ..)) h0 h1
    have hr : ∀ x ∈ r, x.length ≤ 2 ^ 40 := fun x hx => hl x (List.mem_cons_of_mem _ hx)
    have ih := jrun_eq r (impl_check n l) (t ++ lineJ (impl_check n l) l) c4 c5 hr
    rw [List.append_assoc] at ih
    unfold jrun
    cases hc : l.contains 10 with
    | true =>
      have : (l :: r).all clean = false := by rw [List.all_cons, clean, hc]; rfl
      rw [this]
      rfl
    | false =>
      have hcl : (l :: r).all clean = r.all clean := by rw [List.all_cons, clean, hc]; rfl
      rw [hcl]
      cases hd : decide (16000 < t.length + l.length) with
      | true =>
        have hd := of_decide_eq_true hd
        have : decide ((t ++ jtext (l :: r) n).length ≤ 16000) = false := by
          refine decide_eq_false ?_
          unfold jtext
          rw [List.length_append, List.length_append, lineJ_len]
          omega
        rw [this, Bool.and_false]
        rfl
      | false => exact ih

/-! ## What the reference refuses first -/

def preJ : List (List UInt8) → Nat → Bool
  | [], _ => true
  | l :: r, s => match decide (16000 < s + l.length + 3) with
    | true => false
    | false => match l.contains 10 with
      | true => false
      | false => preJ r (s + l.length + 3)

theorem preJ_true : ∀ (ls : List (List UInt8)) (s : Nat), preJ ls s = true → ls.all clean = true
  | [], _, _ => rfl
  | l :: r, s, h => by
    unfold preJ at h
    split at h
    · cases h
    · split at h
      · cases h
      · rename_i hc
        rw [List.all_cons, clean, hc, preJ_true r _ h]
        rfl

theorem preJ_false : ∀ (ls : List (List UInt8)) (s : Nat), preJ ls s = false → ls.all clean = false ∨ 16000 < s + sumL ls
  | [], _, h => by cases h
  | l :: r, s, h => by
    unfold preJ at h
    unfold sumL
    split at h
    · rename_i hd
      have := of_decide_eq_true hd
      exact .inr (by omega)
    · split at h
      · rename_i hc
        exact .inl (by rw [List.all_cons, clean, hc]; rfl)
      · rename_i hc
        rcases preJ_false r _ h with h | h
        · exact .inl (by rw [List.all_cons, h, Bool.and_false])
        · exact .inr (by omega)

theorem preJ_drop {ls : List (List UInt8)} {i s : Nat} (h : i < ls.length) : preJ (ls.drop i) s = match decide (16000 < s + (ls.getD i default).length + 3) with
    | true => false
    | false => match (ls.getD i default).contains 10 with
      | true => false
      | false => preJ (ls.drop (i + 1)) (s + (ls.getD i default).length + 3) := by
  rw [List.drop_eq_getElem_cons h, List.getD_eq_getElem?_getD, List.getElem?_eq_getElem h]
  rfl

theorem jtext_drop {ls : List (List UInt8)} {i : Nat} {n : Int} (h : i < ls.length) : jtext (ls.drop i) n = lineJ (impl_check n (ls.getD i default)) (ls.getD i default) ++ jtext (ls.drop (i + 1)) (impl_check n (ls.getD i default)) := by
  rw [List.drop_eq_getElem_cons h, List.getD_eq_getElem?_getD, List.getElem?_eq_getElem h]
  rfl

theorem line_loop (a : List (List UInt8)) (x : Int) (i : Nat) (hi : i < a.length) (hl : (a.getD i default).length ≤ 2 ^ 40) :
    spec_JournalOf_loop1_ends (a, x, ((i : Nat) : Int)) 0 = true ∧ spec_JournalOf_loop1 (a, x, ((i : Nat) : Int)) 0 = bif (a.getD i default).contains 10 then .inl [] else .inr () := by
  generalize hw : a.getD i default = w at hl
  refine loop_post (step := spec_JournalOf_loop1_step (a, x, ((i : Nat) : Int))) (fun s => ∃ k : Nat, s = (k : Int) ∧ k ≤ w.length ∧ w.contains 10 = (w.drop k).contains 10) (fun s => w.length - s.toNat) (fun r => r = bif w.contains 10 then .inl [] else .inr ()) ?_ 0 ⟨0, rfl, Nat.zero_le _, by rw [List.drop_zero]⟩
  rintro s ⟨k, rfl, hk, hc⟩
  unfold spec_JournalOf_loop1_step
  rcases Nat.lt_or_ge k w.length with hlt | hge
  · have hget : w.getD k 0 = w[k] := by rw [List.getD_eq_getElem?_getD, List.getElem?_eq_getElem hlt, Option.getD_some]
    rw [List.drop_eq_getElem_cons hlt, List.contains_cons] at hc
    have hw3 : IntKind.wrap .i64 (((k : Nat) : Int) + 1) = ((k + 1 : Nat) : Int) := by rw [wrap_small (by omega) (by omega)]; omega
    have kin : decide (((k : Nat) : Int) < ((List.length w : Nat) : Int)) = true := decide_eq_true (by omega)
    cases hb : (((w[k].toNat : Nat) : Int) == 10) with
    | true =>
      have hb' : (10 : UInt8) = w[k] := by
        apply UInt8.toNat_inj.1
        have := eq_of_beq hb
        show 10 = w[k].toNat
        omega
      refine ⟨.inr (.inl []), [], ?_, ?_⟩
      · simp only [DT.get, nat_dec hi, nat_ge, Bool.and_self, Int.toNat_natCast, decide_eq_true hi, hw, kin, hget, hb]
      · rw [hc, ← hb']; rfl
    | false =>
      have hb' : ((10 : UInt8) == w[k]) = false := by
        rw [beq_eq_false_iff_ne]
        intro h
        rw [← h] at hb
        exact absurd hb (by decide)
      refine ⟨.inl ((k + 1 : Nat) : Int), [], ?_, ⟨k + 1, rfl, hlt, by rw [hc, hb', Bool.false_or]⟩, ?_⟩
      · simp only [DT.get, nat_dec hi, nat_ge, Bool.and_self, Int.toNat_natCast, decide_eq_true hi, hw, kin, hget, hb, hw3]
      · rw [Int.toNat_natCast, Int.toNat_natCast]; omega
  · have he : k = w.length := Nat.le_antisymm hk hge
    rw [he, List.drop_length] at hc
    have kin : decide (((k : Nat) : Int) < ((List.length w : Nat) : Int)) = false := decide_eq_false (by omega)
    refine ⟨.inr (.inr ()), [], ?_, ?_⟩
    · simp only [DT.get, nat_dec hi, nat_ge, Bool.and_self, Int.toNat_natCast, decide_eq_true hi, hw, kin]
    · rw [hc]; rfl

theorem pre_loop (a : List (List UInt8)) (ha : a.length ≤ 2 ^ 40) (hl : ∀ i, i < a.length → (a.getD i default).length ≤ 2 ^ 20) :
    spec_JournalOf_loop0_ends a (0, 0) = true ∧ spec_JournalOf_loop0 a (0, 0) = bif preJ a 0 then .inr () else .inl [] := by
  refine loop_post (step := spec_JournalOf_loop0_step a) (fun s => ∃ i n : Nat, s.1 = (n : Int) ∧ s.2 = (i : Int) ∧ i ≤ a.length ∧ n ≤ 16000 ∧ preJ a 0 = preJ (a.drop i) n) (fun s => a.length - s.2.toNat) (fun r => r = bif preJ a 0 then .inr () else .inl []) ?_ (0, 0) ⟨0, 0, rfl, rfl, Nat.zero_le _, by omega, by rw [List.drop_zero]⟩
  rintro ⟨s, k⟩ ⟨i, n, hs, hk, hi, hn, hp⟩
  simp only at hs hk
  subst hs hk
  rcases Nat.lt_or_ge i a.length with hlt | hge
  · have h20 := hl i hlt
    obtain ⟨l1, l2⟩ := line_loop a ((n + (a.getD i default).length + 3 : Nat) : Int) i hlt (by omega)
    have w1 : IntKind.wrap .i64 (((List.length (a.getD i default) : Nat) : Int) + 3) = (((a.getD i default).length + 3 : Nat) : Int) := by rw [wrap_small (by omega) (by omega)]; omega
    have w2 : IntKind.wrap .i64 (((n : Nat) : Int) + (((a.getD i default).length + 3 : Nat) : Int)) = ((n + (a.getD i default).length + 3 : Nat) : Int) := by rw [wrap_small (by omega) (by omega)]; omega
    rw [preJ_drop hlt] at hp
    unfold spec_JournalOf_loop0_step
    cases hd : decide (16000 < n + (a.getD i default).length + 3) with
    | true =>
      have d1 : decide (((n + (a.getD i default).length + 3 : Nat) : Int) > 16000) = true := by
        have := of_decide_eq_true hd
        exact decide_eq_true (by omega)
      rw [hd] at hp
      simp only at hp
      refine ⟨.inr (.inl []), [], ?_, by rw [hp]; rfl⟩
      simp only [DT.get, nat_dec hlt, nat_ge, Bool.and_self, Int.toNat_natCast, w1, w2, d1]
    | false =>
      have hnd := of_decide_eq_false hd
      have d1 : decide (((n + (a.getD i default).length + 3 : Nat) : Int) > 16000) = false := decide_eq_false (by omega)
      rw [hd] at hp
      simp only at hp
      cases hc : (a.getD i default).contains 10 with
      | true =>
        rw [hc] at hp l2
        simp only [cond_true] at hp l2
        refine ⟨.inr (.inl []), [], ?_, by rw [hp]; rfl⟩
        simp only [DT.get, nat_dec hlt, nat_ge, Bool.and_self, Int.toNat_natCast, w1, w2, d1, l1, l2, isL, leftD]
      | false =>
        rw [hc] at hp l2
        simp only [cond_false] at hp l2
        refine ⟨.inl (((n + (a.getD i default).length + 3 : Nat) : Int), ((i + 1 : Nat) : Int)), [], ?_, ⟨i + 1, n + (a.getD i default).length + 3, rfl, rfl, hlt, by omega, hp⟩, ?_⟩
        · simp only [DT.get, nat_dec hlt, nat_ge, Bool.and_self, Int.toNat_natCast, w1, w2, d1, l1, l2, isL, nat_next hlt (Nat.le_trans ha (by decide))]
        · show a.length - ((i + 1 : Nat) : Int).toNat < a.length - ((i : Nat) : Int).toNat
          rw [Int.toNat_natCast, Int.toNat_natCast]; omega
  · have he : i = a.length := Nat.le_antisymm hi hge
    refine ⟨.inr (.inr ()), [], ?_, ?_⟩
    · unfold spec_JournalOf_loop0_step
      simp only [DT.get, he, nat_not]
    · rw [hp, he, List.drop_length]; rfl

theorem journal_spec (a : List (List UInt8)) (ha : a.length ≤ 2 ^ 20) (hl : ∀ i, i < a.length → (a.getD i default).length ≤ 2 ^ 20) : spec_l08Journal_need a = true ∧ spec_l08Journal a = jtext a 0 := by
  obtain ⟨h1, h2⟩ := loop_post (step := spec_l08Journal_loop0_step a) (fun s => ∃ i : Nat, s.2.2 = (i : Int) ∧ i ≤ a.length ∧ 0 ≤ s.2.1 ∧ s.2.1 < 65003 ∧ s.1.length ≤ i * 2097152 ∧ s.1 ++ jtext (a.drop i) s.2.1 = jtext a 0) (fun s => a.length - s.2.2.toNat) (fun r => r = jtext a 0) (by
    rintro ⟨t, n, k⟩ ⟨i, hk, hi, h0, h1, ht, hj⟩
    simp only at hk h0 h1 ht hj
    subst hk
    unfold spec_l08Journal_loop0_step
    rcases Nat.lt_or_ge i a.length with hlt | hge
    · have h20 := hl i hlt
      obtain ⟨c1, c2, c3, c4, c5⟩ := check_same (a.getD i default) (Nat.le_trans h20 (by decide)) n h0 h1
      obtain ⟨d1, d2, d3⟩ := dec_same _ c4 c5
      rw [← c3] at c4 c5 d2 d3
      obtain ⟨e1, e2⟩ := decimal_len _ c4 c5
      have hm : i * 2097152 ≤ 1048576 * 2097152 := Nat.mul_le_mul_right _ (by omega)
      rw [jtext_drop hlt] at hj
      generalize hL : a.getD i default = L at *
      generalize hn' : impl_check n L = n' at *
      have s1 : decide (List.length (impl_Decimal n') + List.length [32] ≤ 9223372036854775807) = true := decide_eq_true (by simp only [List.length_singleton]; omega)
      have s2 : decide (List.length (impl_Decimal n' ++ [(32 : UInt8)]) + List.length L ≤ 9223372036854775807) = true := decide_eq_true (by simp only [List.length_append, List.length_singleton]; omega)
      have s3 : decide (List.length ((impl_Decimal n' ++ [(32 : UInt8)]) ++ L) + List.length [10] ≤ 9223372036854775807) = true := decide_eq_true (by simp only [List.length_append, List.length_singleton]; omega)
      have s4 : decide (List.length t + List.length (((impl_Decimal n' ++ [(32 : UInt8)]) ++ L) ++ [(10 : UInt8)]) ≤ 9223372036854775807) = true := decide_eq_true (by simp only [List.length_append, List.length_singleton]; omega)
      refine ⟨.inl (t ++ lineJ n' L, n', ((i + 1 : Nat) : Int)), [], ?_, ⟨i + 1, rfl, hlt, c4, c5, ?_, ?_⟩, ?_⟩
      · simp only [DT.get, nat_dec hlt, nat_ge, Bool.and_self, Int.toNat_natCast, hL, c2, ← c3, d2, ← d3, s1, s2, s3, s4, nat_next hlt (Nat.le_trans ha (by decide)), lineJ]
      · show (t ++ lineJ n' L).length ≤ (i + 1) * 2097152
        rw [List.length_append, lineJ_len]
        omega
      · show (t ++ lineJ n' L) ++ jtext (a.drop (i + 1)) n' = jtext a 0
        rw [List.append_assoc]
        exact hj
      · show a.length - ((i + 1 : Nat) : Int).toNat < a.length - ((i : Nat) : Int).toNat
        rw [Int.toNat_natCast, Int.toNat_natCast]; omega
    · have he : i = a.length := Nat.le_antisymm hi hge
      refine ⟨.inr t, [], ?_, ?_⟩
      · simp only [DT.get, he, nat_not]
      · rw [← hj, he, List.drop_length]
        show t = t ++ []
        rw [List.append_nil]) ([], 0, 0) ⟨0, rfl, Nat.zero_le _, Int.le_refl _, by decide, by simp, by rw [List.drop_zero]; rfl⟩
  have h1 : spec_l08Journal_loop0_ends a ([], 0, 0) = true := h1
  have h2 : spec_l08Journal_loop0 a ([], 0, 0) = jtext a 0 := h2
  have key : (spec_l08Journal_tree a).get = some (jtext a 0) := by
    unfold spec_l08Journal_tree
    simp only [DT.get, h1, h2]
  exact DT.of_get key

theorem getD_mem {α : Type} {l : List α} {d : α} {i : Nat} (h : i < l.length) : l.getD i d ∈ l := by
  rw [List.getD_eq_getElem?_getD, List.getElem?_eq_getElem h]
  exact List.getElem_mem h
theorem mem_getD {α : Type} {l : List α} {d x : α} (h : x ∈ l) : ∃ i, i < l.length ∧ l.getD i d = x := by
  obtain ⟨i, hi, rfl⟩ := List.getElem_of_mem h
  exact ⟨i, hi, by rw [List.getD_eq_getElem?_getD, List.getElem?_eq_getElem hi]; rfl⟩

theorem spec_same (a : List (List UInt8)) (ha : a.length ≤ 2 ^ 20) (hl : ∀ i, i < a.length → (a.getD i default).length ≤ 2 ^ 20) : spec_JournalOf_need a = true ∧ spec_JournalOf a = jrun a 0 [] := by
  have hm : ∀ l ∈ a, l.length ≤ 2 ^ 40 := fun l h => by
    obtain ⟨i, hi, rfl⟩ := mem_getD (d := default) h
    exact Nat.le_trans (hl i hi) (by decide)
  obtain ⟨p1, p2⟩ := pre_loop a (by omega) hl
  obtain ⟨q1, q2⟩ := journal_spec a ha hl
  have hj := jrun_eq a 0 [] (Int.le_refl _) (by decide) hm
  rw [List.nil_append] at hj
  have hlen := jtext_len a 0 (Int.le_refl _) (by decide) hm
  have key : (spec_JournalOf_tree a).get = some (jrun a 0 []) := by
    unfold spec_JournalOf_tree
    cases hp : preJ a 0 with
    | false =>
      rw [hp] at p2
      simp only [cond_false] at p2
      have : (a.all clean && decide ((jtext a 0).length ≤ 16000)) = false := by
        rcases preJ_false a 0 hp with h | h
        · rw [h, Bool.false_and]
        · rw [decide_eq_false (by omega), Bool.and_false]
      rw [this] at hj
      simp only [cond_false] at hj
      simp only [DT.get, p1, p2, isL, leftD, hj]
    | true =>
      rw [hp] at p2
      simp only [cond_true] at p2
      rw [preJ_true a 0 hp, Bool.true_and] at hj
      cases hd : decide ((jtext a 0).length ≤ 16000) with
      | true =>
        have d : decide (((List.length (jtext a 0) : Nat) : Int) > 16000) = false := by
          have := of_decide_eq_true hd
          exact decide_eq_false (by omega)
        rw [hd] at hj
        simp only [cond_true] at hj
        simp only [DT.get, p1, p2, isL, q1, q2, d, hj]
      | false =>
        have d : decide (((List.length (jtext a 0) : Nat) : Int) > 16000) = true := by
          have := of_decide_eq_false hd
          exact decide_eq_true (by omega)
        rw [hd] at hj
        simp only [cond_false] at hj
        simp only [DT.get, p1, p2, isL, q1, q2, d, hj]
  exact DT.of_get key

/-! ## Lines of a law -/

theorem getD_set {α : Type} {l : List α} {i : Nat} {x d : α} (h : i < l.length) : List.getD (List.set l i x) i d = x := by
  rw [List.getD_eq_getElem?_getD, List.getElem?_set_self h, Option.getD_some]
theorem getD_set_ne {α : Type} {l : List α} {i j : Nat} {x d : α} (h : i ≠ j) : List.getD (List.set l i x) j d = List.getD l j d := by
  rw [List.getD_eq_getElem?_getD, List.getD_eq_getElem?_getD, List.getElem?_set_ne h]

theorem toStringS_eq (l : List (List UInt8)) (hl : l.length ≤ 2 ^ 40) : laws_toStringS_need l = true ∧ laws_toStringS l = l := by
  obtain ⟨h1, h2⟩ := loop_post (step := laws_toStringS_loop0_step l) (fun s => ∃ j : Nat, s.1 = (j : Int) ∧ j ≤ l.length ∧ s.2.length = l.length ∧ ∀ q, q < j → s.2.getD q default = l.getD q default) (fun s => l.length - s.1.toNat) (fun r => r = (List.range l.length).map fun q => l.getD q default) (by
    rintro ⟨k, o⟩ ⟨j, hk, hjl, ho, hq⟩
    simp only at hk ho hq
    subst hk
    rcases Nat.lt_or_ge j l.length with hlt | hge
    · have hlo : j < o.length := by omega
      have g1 : (decide (0 ≤ ((j : Nat) : Int)) && decide (((j : Nat) : Int) < ((List.length o : Nat) : Int))) = true := nat_in hlo
      refine ⟨.inl (((j + 1 : Nat) : Int), List.set o j (l.getD j default)), [0], ?_, ⟨j + 1, rfl, hlt, by rw [List.length_set]; exact ho, fun q hq' => ?_⟩, ?_⟩
      · unfold laws_toStringS_loop0_step
        simp only [DT.get, nat_dec hlt, nat_ge, Bool.and_self, Int.toNat_natCast, g1, decide_eq_true hlo, nat_next hlt (Nat.le_trans hl (by decide))]
        simp only [show decide (((j : Nat) : Int) < ((List.length o : Nat) : Int)) = true from decide_eq_true (by omega), Bool.and_self]
      · rcases Nat.lt_or_ge q j with g | g
        · show (List.set o j _).getD q default = _
          rw [getD_set_ne (by omega)]
          exact hq q g
        · show (List.set o j _).getD q default = _
          rw [show q = j from by omega, getD_set hlo]
      · show l.length - ((j + 1 : Nat) : Int).toNat < l.length - ((j : Nat) : Int).toNat
        rw [Int.toNat_natCast, Int.toNat_natCast]; omega
    · have he : j = l.length := Nat.le_antisymm hjl hge
      refine ⟨.inr o, [0], ?_, ?_⟩
      · unfold laws_toStringS_loop0_step
        simp only [DT.get, he, nat_not]
      · exact eq_of_getD ho (fun q hq' => hq q (by omega))) (0, List.replicate l.length ([] : List UInt8)) ⟨0, rfl, Nat.zero_le _, by simp, fun q hq => absurd hq (Nat.not_lt_zero q)⟩
  have h1 : laws_toStringS_loop0_ends l (0, List.replicate l.length ([] : List UInt8)) = true := h1
  have h2 : laws_toStringS_loop0 l (0, List.replicate l.length ([] : List UInt8)) = (List.range l.length).map fun q => l.getD q default := h2
  have he : ((List.range l.length).map fun q => l.getD q default) = l := (eq_of_getD rfl (fun j hj => rfl)).symm
  have c1 : decide ((0 : Int) ≤ ((l.length : Nat) : Int)) = true := decide_eq_true (by omega)
  have c2 : decide (((l.length : Nat) : Int) ≤ ((l.length : Nat) : Int)) = true := decide_eq_true (by omega)
  have c3 : decide (16 * ((l.length : Nat) : Int) ≤ 281474976710656) = true := decide_eq_true (by omega)
  have c4 : decide (((l.length : Nat) : Int) ≤ 9223372036854775807) = true := decide_eq_true (by omega)
  unfold laws_toStringS_need laws_toStringS laws_toStringS_tree
  simp only [DT.ok, DT.val, c1, c2, c3, c4, Bool.and_self, Int.toNat_natCast, h1, h2, he]
  exact ⟨trivial, trivial⟩

theorem szS (l : List (List UInt8)) (hl : l.length ≤ maxLen) (hf : ∀ e ∈ l, e.length ≤ maxLen) : laws_szStringS_need l 1048576 = true ∧ (decide (laws_szStringS l 1048576 < 0) = false → l.length ≤ 2 ^ 20 ∧ ∀ i, i < l.length → (l.getD i default).length ≤ 2 ^ 20) := by
  unfold maxLen at hl hf
  have hw : IntKind.wrap .i64 (1048576 - ((l.length : Nat) : Int)) = 1048576 - ((l.length : Nat) : Int) := wrap_small (by omega) (by omega)
  by_cases h : l.length ≤ 1048576
  · have h0 : decide (1048576 - ((l.length : Nat) : Int) < 0) = false := decide_eq_false (by omega)
    have hloop := loop_post (step := laws_szStringS_loop0_step l) (fun s => ∃ i : Nat, s.2 = (i : Int) ∧ i ≤ l.length ∧ 0 ≤ s.1 ∧ s.1 ≤ 2 ^ 20 ∧ ∀ j, j < i → (l.getD j default).length ≤ 2 ^ 20) (fun s => l.length - s.2.toNat) (fun r => match r with
      | .inl v => v = -1
      | .inr v => 0 ≤ v ∧ ∀ j, j < l.length → (l.getD j default).length ≤ 2 ^ 20) (by
      rintro ⟨a, s⟩ ⟨i, hs, hi, ha0, ha1, hj⟩
      simp only at hs ha0 ha1
      subst hs
      rcases Nat.lt_or_ge i l.length with hlt | hge
      · have hli := hf _ (getD_mem (d := default) hlt)
        have hwz : IntKind.wrap .i64 (a - ((List.length (l.getD i default) : Nat) : Int)) = a - ((List.length (l.getD i default) : Nat) : Int) := wrap_small (by omega) (by omega)
        by_cases hq : a < (l.getD i default).length
        · have hd : decide (a - ((List.length (l.getD i default) : Nat) : Int) < 0) = true := decide_eq_true (by omega)
          refine ⟨.inr (.inl (-1)), [], ?_, rfl⟩
          unfold laws_szStringS_loop0_step
          simp only [DT.get, nat_dec hlt, nat_ge, Bool.and_self, Int.toNat_natCast, hwz, hd]
        · have hd : decide (a - ((List.length (l.getD i default) : Nat) : Int) < 0) = false := decide_eq_false (by omega)
          refine ⟨.inl (a - (l.getD i default).length, ((i + 1 : Nat) : Int)), [], ?_, ⟨i + 1, rfl, hlt, by show 0 ≤ a - _; omega, by show a - _ ≤ 2 ^ 20; omega, fun j hj' => ?_⟩, ?_⟩
          · unfold laws_szStringS_loop0_step
            simp only [DT.get, nat_dec hlt, nat_ge, Bool.and_self, Int.toNat_natCast, hwz, hd, nat_next hlt (by omega)]
          · rcases Nat.lt_or_ge j i with g | g
            · exact hj j g
            · rw [show j = i from by omega]; omega
          · show l.length - ((i + 1 : Nat) : Int).toNat < l.length - ((i : Nat) : Int).toNat
            rw [Int.toNat_natCast, Int.toNat_natCast]
            omega
      · have he : i = l.length := Nat.le_antisymm hi hge
        refine ⟨.inr (.inr a), [], ?_, ha0, fun j hj' => hj j (by omega)⟩
        unfold laws_szStringS_loop0_step
        simp only [DT.get, he, nat_not]) (1048576 - ((l.length : Nat) : Int), 0) ⟨0, rfl, Nat.zero_le _, by show 0 ≤ 1048576 - _; omega, by show 1048576 - _ ≤ 2 ^ 20; omega, fun j hj => absurd hj (Nat.not_lt_zero j)⟩
    have l1 : laws_szStringS_loop0_ends l (1048576 - ((l.length : Nat) : Int), 0) = true := hloop.1
    have l2 : match laws_szStringS_loop0 l (1048576 - ((l.length : Nat) : Int), 0) with
      | .inl v => v = -1
      | .inr v => 0 ≤ v ∧ ∀ j, j < l.length → (l.getD j default).length ≤ 2 ^ 20 := hloop.2
    cases hv : laws_szStringS_loop0 l (1048576 - ((l.length : Nat) : Int), 0) with
    | inl v =>
      rw [hv] at l2
      have l2 : v = -1 := l2
      subst l2
      have key : (laws_szStringS_tree l 1048576).get = some (-1) := by
        unfold laws_szStringS_tree
        simp only [DT.get, hw, h0, l1, hv, isL, leftD]
      obtain ⟨k1, k2⟩ := DT.of_get key
      refine ⟨k1, fun hd => ?_⟩
      have k2 : laws_szStringS l 1048576 = -1 := k2
      rw [k2] at hd
      cases hd
    | inr v =>
      rw [hv] at l2
      have key : (laws_szStringS_tree l 1048576).get = some v := by
        unfold laws_szStringS_tree
        simp only [DT.get, hw, h0, l1, hv, isL, rightD]
      exact ⟨(DT.of_get key).1, fun _ => ⟨h, l2.2⟩⟩
  · have h0 : decide (1048576 - ((l.length : Nat) : Int) < 0) = true := decide_eq_true (by omega)
    have key : (laws_szStringS_tree l 1048576).get = some (-1) := by
      unfold laws_szStringS_tree
      simp only [DT.get, hw, h0]
    obtain ⟨k1, k2⟩ := DT.of_get key
    refine ⟨k1, fun hd => ?_⟩
    have k2 : laws_szStringS l 1048576 = -1 := k2
    rw [k2] at hd
    cases hd

theorem eqS_self (l : List (List UInt8)) (hl : l.length ≤ 2 ^ 62) : laws_eqStringS_need l l = true ∧ laws_eqStringS l l = true := by
  obtain ⟨h1, h2⟩ := scan_loop (α := Unit) (β := Unit) (step := laws_eqStringS_loop0_step (l, l)) l.length (fun _ => none) () (fun i hi => ⟨[], by
    unfold laws_eqStringS_loop0_step
    simp only [DT.get, nat_dec hi, nat_ge, Bool.and_self, beq_self_eq_true, Bool.not_true, nat_next hi hl]⟩) ⟨[], by
    unfold laws_eqStringS_loop0_step
    simp only [DT.get, nat_not]⟩
  have hf : firstOf (fun _ => (none : Option Unit)) l.length = none := by
    unfold firstOf
    rw [List.findSome?_eq_none_iff]
    exact fun _ _ => rfl
  rw [hf] at h2
  have h1 : laws_eqStringS_loop0_ends (l, l) 0 = true := h1
  have h2 : laws_eqStringS_loop0 (l, l) 0 = .inr () := h2
  have hne : (((l.length : Nat) : Int) != ((l.length : Nat) : Int)) = false := by simp
  unfold laws_eqStringS_need laws_eqStringS laws_eqStringS_tree
  simp only [DT.ok, DT.val, hne, h1, h2, isL]
  exact ⟨trivial, trivial⟩

theorem plain10 (l : List (List UInt8)) (hl : l.length ≤ maxLen) (hf : ∀ x ∈ l, x.length ≤ maxLen) : laws_FnExactJournalOf_need l = true ∧ laws_FnExactJournalOf l = true := by
  obtain ⟨z1, z2⟩ := szS l hl hf
  have key : (laws_FnExactJournalOf_tree l).get = some true := by
    unfold laws_FnExactJournalOf_tree
    cases hs : decide (laws_szStringS l 1048576 < 0) with
    | true => simp only [DT.get, z1, hs]
    | false =>
      obtain ⟨h1, h2⟩ := z2 hs
      obtain ⟨t1, t2⟩ := toStringS_eq l (by omega)
      obtain ⟨q1, q2⟩ := spec_same l h1 h2
      obtain ⟨e1, e2⟩ := eqS_self l (by omega)
      have g : (decide (List.length l ≤ 1099511627776) && List.all l shortL) = true := by
        rw [Bool.and_eq_true, decide_eq_true_eq, List.all_eq_true]
        refine ⟨by omega, fun x hx => ?_⟩
        obtain ⟨i, hi, rfl⟩ := mem_getD (d := default) hx
        exact decide_eq_true (Nat.le_trans (h2 i hi) (by decide))
      simp only [DT.get, z1, hs, t1, t2, q1, q2, g, e1, e2, beq_self_eq_true, Bool.not_true]
  exact DT.of_get key

end Go.Proofs.YtcipkfndnkmjlaaDoor
