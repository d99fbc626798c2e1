/- The law of catalogs, part 7: the law. -/
import Derived.Test.YtnmeiodaeaabfaaK6
namespace Go.Proofs.Ytnmeiodaeaabfaa
set_option linter.unusedVariables false
set_option linter.unusedSimpArgs false

theorem OkL.take {l : List Entry} (h : OkL l) (k : Nat) : OkL (l.take k) := by
  refine ⟨fun e he => h.1 e (List.mem_of_mem_take he), fun i hi => ?_, by rw [List.length_take]; have := h.2.2; omega⟩
  rw [List.length_take] at hi
  rw [getD_take _ _ _ _ (by omega), getD_take _ _ _ _ (by omega)]
  exact h.2.1 i (by omega)

/-- Where the entries end. -/
noncomputable def endsE (l : List Entry) (n : Nat) : List Int := (List.range n).map fun j => (((cat (l.take j)).length : Nat) : Int)

theorem ends_next (l : List Entry) (n : Nat) : endsE l (n + 1) = endsE l n ++ [(((cat (l.take n)).length : Nat) : Int)] := by
  unfold endsE
  rw [List.range_succ, List.map_append]
  rfl
theorem ends_length (l : List Entry) (n : Nat) : (endsE l n).length = n := by unfold endsE; simp
theorem ends_at (l : List Entry) {n j : Nat} (h : j < n) : (endsE l n).getD j default = (((cat (l.take j)).length : Nat) : Int) := getD_range h

theorem one_of {l : List Entry} {i : Nat} (h : i < l.length) : (l.drop i).take (i + 1 - i) = [l.getD i default] := by
  rw [show i + 1 - i = 1 from by omega, List.drop_eq_getElem_cons h, List.getD_eq_getElem?_getD, List.getElem?_eq_getElem h]
  rfl

theorem store_rounds {l : List Entry} (hl : OkL l) (d : List Int) : laws_FnCatalogs_loop0_ends (d, ((l.length : Nat) : Int), l) (0, [0]) = true ∧ laws_FnCatalogs_loop0 (d, ((l.length : Nat) : Int), l) (0, [0]) = .inr (endsE l (l.length + 1)) := by
  have h16 := hl.2.2
  have eta : ∀ x : Entry, (⟨x.Name, x.Mass, ⟨x.Orb.Long, x.Orb.Round, x.Orb.Tilt, x.Orb.Node, x.Orb.Peri, x.Orb.Phase⟩⟩ : Entry) = x := fun _ => rfl
  refine loop_post (step := laws_FnCatalogs_loop0_step (d, ((l.length : Nat) : Int), l)) (fun s => ∃ i : Nat, i ≤ l.length ∧ s = ((i : Int), endsE l (i + 1))) (fun s => l.length - s.1.toNat) (fun r => r = .inr (endsE l (l.length + 1))) ?_ (0, [0]) ⟨0, Nat.zero_le _, rfl⟩
  rintro s ⟨i, hi, rfl⟩
  rcases Nat.lt_or_ge i l.length with hlt | hge
  · have hg := hl.1 _ (getD_mem (d := (default : Entry)) hlt)
    obtain ⟨s1, s2⟩ := store_one hg
    obtain ⟨o1, o2⟩ := load_one hg
    obtain ⟨q1, q2⟩ := same_entries [l.getD i default] (by show 1 ≤ 2 ^ 62; decide)
    have hsl := st_length hg
    have hn8 := (entry_facts hg.1).2.1
    have hcl := cat_le (l := l.take i) fun x hx => hl.1 x (List.mem_of_mem_take hx)
    rw [List.length_take] at hcl
    have hnx := nat_next hlt (by omega)
    have n1 : (decide ((0 : Int) ≤ ((i + 1 : Nat) : Int)) && decide (((i + 1 : Nat) : Int) ≤ ((l.length : Nat) : Int))) = true := by rw [decide_eq_true (by omega), decide_eq_true (by omega)]; rfl
    have n2 : (decide ((0 : Int) ≤ (i : Int)) && decide ((i : Int) ≤ ((i + 1 : Nat) : Int))) = true := by rw [decide_eq_true (by omega), decide_eq_true (by omega)]; rfl
    have n3 : decide (i + (i + 1 - i) ≤ l.length) = true := decide_eq_true (by omega)
    have n4 : decide (i < l.length) = true := decide_eq_true hlt
    have w1 : IntKind.wrap .i64 (((i + 1 : Nat) : Int) - 1) = (i : Int) := by rw [wrap_small (by omega) (by omega)]; omega
    have n5 : (decide ((0 : Int) ≤ (i : Int)) && decide ((i : Int) < ((i + 1 : Nat) : Int))) = true := by rw [decide_eq_true (by omega), decide_eq_true (by omega)]; rfl
    have n6 : decide (i < i + 1) = true := decide_eq_true (by omega)
    have w2 : IntKind.wrap .i64 ((((cat (l.take i)).length : Nat) : Int) + (((impl_storeEntry (l.getD i default)).length : Nat) : Int)) = (((cat (l.take (i + 1))).length : Nat) : Int) := by
      rw [take_next (d := default) hlt, cat_app, cat_one, List.length_append, wrap_small (by omega) (by omega)]
      omega
    have n7 : ∀ x : Int, (decide ((i + 1 + [x].length) * 8 ≤ 140737488355328) && decide (i + 1 + [x].length ≤ 9223372036854775807)) = true := fun x => by
      show (decide ((i + 1 + 1) * 8 ≤ 140737488355328) && decide (i + 1 + 1 ≤ 9223372036854775807)) = true
      rw [decide_eq_true (by omega), decide_eq_true (by omega)]; rfl
    have n1' : decide (((i + 1 : Nat) : Int) ≤ ((l.length : Nat) : Int)) = true := decide_eq_true (by omega)
    have n2' : decide ((i : Int) ≤ ((i + 1 : Nat) : Int)) = true := decide_eq_true (by omega)
    have n5' : decide ((i : Int) < ((i + 1 : Nat) : Int)) = true := decide_eq_true (by omega)
    have hlen := ends_length l (i + 1)
    have hat := ends_at l (n := i + 1) (j := i) (by omega)
    refine ⟨.inl (((i + 1 : Nat) : Int), endsE l (i + 1 + 1)), [0, 394], ?_, ⟨i + 1, hlt, rfl⟩, ?_⟩
    · rw [ends_next l (i + 1)]
      unfold laws_FnCatalogs_loop0_step
      simp only [DT.get, nat_dec hlt, nat_in hlt, nat_ge, Bool.and_true, Bool.and_self, n4, Int.toNat_natCast, eta, s1, s2, o1, o2, Bool.not_true, hnx, n1', n2', n3, one_of hlt, q1, q2, hlen, w1, n5', n6, hat, w2, n7]
    · show l.length - ((i + 1 : Nat) : Int).toNat < l.length - ((i : Nat) : Int).toNat
      rw [Int.toNat_natCast, Int.toNat_natCast]
      omega
  · have he : i = l.length := Nat.le_antisymm hi hge
    subst he
    refine ⟨.inr (.inr (endsE l (l.length + 1))), [0, 1], ?_, rfl⟩
    unfold laws_FnCatalogs_loop0_step
    simp only [DT.get, nat_not]

theorem kept_rounds {l : List Entry} (hl : l.length ≤ 16) (d : List Int) (all : List UInt8) (n : Nat) :
    laws_FnCatalogs_loop1_ends (d, all, (n : Int), l, endsE l (l.length + 1)) 0 = true ∧ ∃ k : Nat, laws_FnCatalogs_loop1 (d, all, (n : Int), l, endsE l (l.length + 1)) 0 = (k : Int) ∧ k ≤ l.length ∧ (cat (l.take k)).length ≤ n ∧ (k < l.length → n < (cat (l.take (k + 1))).length) := by
  refine loop_post (step := laws_FnCatalogs_loop1_step (d, all, (n : Int), l, endsE l (l.length + 1))) (fun s => ∃ i : Nat, s = (i : Int) ∧ i ≤ l.length ∧ (cat (l.take i)).length ≤ n) (fun s => l.length - s.toNat) (fun r => ∃ k : Nat, r = (k : Int) ∧ k ≤ l.length ∧ (cat (l.take k)).length ≤ n ∧ (k < l.length → n < (cat (l.take (k + 1))).length)) ?_ 0 ⟨0, rfl, Nat.zero_le _, Nat.zero_le _⟩
  rintro s ⟨i, rfl, hi, hc⟩
  unfold laws_FnCatalogs_loop1_step
  have hlen := ends_length l (l.length + 1)
  rcases Nat.lt_or_ge i l.length with hlt | hge
  · have hnx := nat_next hlt (by omega)
    have n1 : (decide ((0 : Int) ≤ ((i + 1 : Nat) : Int)) && decide (((i + 1 : Nat) : Int) < ((l.length + 1 : Nat) : Int))) = true := by rw [decide_eq_true (by omega), decide_eq_true (by omega)]; rfl
    have n2 : decide (i + 1 < l.length + 1) = true := decide_eq_true (by omega)
    have hat := ends_at l (n := l.length + 1) (j := i + 1) (by omega)
    by_cases hle : (cat (l.take (i + 1))).length ≤ n
    · have d1 : decide ((((cat (l.take (i + 1))).length : Nat) : Int) ≤ (n : Int)) = true := decide_eq_true (by omega)
      refine ⟨.inl ((i + 1 : Nat) : Int), [0, 1], ?_, ⟨i + 1, rfl, hlt, hle⟩, ?_⟩
      · simp only [DT.get, nat_dec hlt, hnx, hlen, n1, Int.toNat_natCast, n2, hat, d1]
      · show l.length - ((i + 1 : Nat) : Int).toNat < l.length - ((i : Nat) : Int).toNat
        rw [Int.toNat_natCast, Int.toNat_natCast]
        omega
    · have d1 : decide ((((cat (l.take (i + 1))).length : Nat) : Int) ≤ (n : Int)) = false := decide_eq_false (by omega)
      refine ⟨.inr (i : Int), [1], ?_, i, rfl, hi, hc, fun _ => by omega⟩
      simp only [DT.get, nat_dec hlt, hnx, hlen, n1, Int.toNat_natCast, n2, hat, d1]
  · have he : i = l.length := Nat.le_antisymm hi hge
    subst he
    refine ⟨.inr ((l.length : Nat) : Int), [1], ?_, l.length, rfl, hi, hc, fun h => absurd h (Nat.lt_irrefl _)⟩
    simp only [DT.get, nat_not]

theorem at_eq {c : List Int} (hc : Bytes c) (i : Nat) (hi : i ≤ 2) (n : Int) (h2 : 2 ≤ n) (h3 : n ≤ 256) : laws_b10At_need c (i : Int) n = true ∧ 0 ≤ laws_b10At c (i : Int) n ∧ laws_b10At c (i : Int) n < n := by
  have d1 : decide (n ≤ 1) = false := decide_eq_false (by omega)
  have d3 : (n != 0) = true := by simp; omega
  have hl := hc.1
  have key : ∃ v, (laws_b10At_tree c (i : Int) n).get = some v ∧ 0 ≤ v ∧ v < n := by
    unfold laws_b10At_tree
    rcases Nat.lt_or_ge i c.length with hlt | hge
    · have hb := hc.at i hlt
      refine ⟨Int.tmod (IntKind.wrap .i64 (c.getD i default)) n, ?_, ?_, Int.tmod_lt_of_pos _ (by omega)⟩
      · simp only [DT.get, d1, nat_dec hlt, nat_ge, Bool.and_self, Int.toNat_natCast, d3]
      · rw [wrap_small (by omega) (by omega)]
        exact Int.tmod_nonneg _ hb.1
    · have d2 : decide (((i : Nat) : Int) < ((c.length : Nat) : Int)) = false := decide_eq_false (by omega)
      refine ⟨Int.tmod (IntKind.wrap .i64 (IntKind.wrap .i64 ((i : Int) * 37) + 11)) n, ?_, ?_, Int.tmod_lt_of_pos _ (by omega)⟩
      · simp only [DT.get, d1, d2, d3]
      · rw [wrap_small (n := (i : Int) * 37) (by omega) (by omega), wrap_small (by omega) (by omega)]
        exact Int.tmod_nonneg _ (by omega)
  obtain ⟨v, h, hv⟩ := key
  obtain ⟨k1, k2⟩ := DT.of_get h
  have k2 : laws_b10At c (i : Int) n = v := k2
  rw [k2]
  exact ⟨k1, hv⟩

theorem rec_cut {l : List Entry} (hl : OkL l) {n k : Nat} (hk : k < l.length) (h1 : (cat (l.take k)).length ≤ n) (h2 : n < (cat (l.take (k + 1))).length) :
    impl_RecoverEntries_need ((cat l).take n) = true ∧ impl_RecoverEntries ((cat l).take n) = (l.take k, (((cat (l.take k)).length : Nat) : Int), true) := by
  have hg := hl.1 _ (getD_mem (d := (default : Entry)) hk)
  have hs : (cat (l.take (k + 1))).length = (cat (l.take k)).length + (impl_storeEntry (l.getD k default)).length := by
    rw [take_next (d := default) hk, cat_app, cat_one, List.length_append]
  have hsplit : cat l = cat (l.take k) ++ (impl_storeEntry (l.getD k default) ++ cat (l.drop (k + 1))) := by
    have := congrArg cat (split_at (d := (default : Entry)) hk)
    rw [cat_app, cat_cons] at this
    exact this
  have ht : (cat l).take n = cat (l.take k) ++ (impl_storeEntry (l.getD k default)).take (n - (cat (l.take k)).length) := by
    rw [hsplit, List.take_append, List.take_append, List.take_of_length_le h1]
    rw [show n - (cat (l.take k)).length - (impl_storeEntry (l.getD k default)).length = 0 from by omega, List.take_zero, List.append_nil]
  have hcl := cat_le hl.1
  have h16 := hl.2.2
  rw [ht]
  refine rec_dead (hl.take k) _ ?_ (load_cut hg (by omega))
  rw [← ht, List.length_take]
  omega

theorem rec_all {l : List Entry} (hl : OkL l) : impl_RecoverEntries_need (cat l) = true ∧ impl_RecoverEntries (cat l) = (l, (((cat l).length : Nat) : Int), true) := by
  have hcl := cat_le hl.1
  have h16 := hl.2.2
  have h := rec_dead hl [] (by rw [List.append_nil]; omega) (by
    obtain ⟨_, h | ⟨e, n, h, hn, _⟩⟩ := first_ok [] (Nat.zero_le _)
    · rw [h]
    · have : 35 + n ≤ 0 := hn
      omega)
  rw [List.append_nil] at h
  exact h

theorem bent_live {l : List Entry} (hl : OkL l) {n k : Nat} (hn : n < (cat l).length) (h1 : (cat (l.take k)).length ≤ n) (b : Int) :
    impl_RecoverEntries_need (strOf ((u8i (cat l)).set n b)) = true ∧ ∃ l' : List Entry, ∃ o : Nat, impl_RecoverEntries (strOf ((u8i (cat l)).set n b)) = (l', (o : Int), true) ∧ o ≤ (cat l).length ∧ OkL l' ∧ cat l' = strOf (((u8i (cat l)).set n b).take o) ∧ (l.take k).length ≤ l'.length := by
  have hset : strOf ((u8i (cat l)).set n b) = (cat l).set n (UInt8.ofNat b.toNat) := by
    have h1 : strOf ((u8i (cat l)).set n b) = (strOf (u8i (cat l))).set n (UInt8.ofNat b.toNat) := List.map_set (α := Int)
    rw [h1, strOf_u8i]
  have hap : cat l = cat (l.take k) ++ cat (l.drop k) := by rw [← cat_app, List.take_append_drop]
  have hp : (cat l).set n (UInt8.ofNat b.toNat) = cat (l.take k) ++ (cat (l.drop k)).set (n - (cat (l.take k)).length) (UInt8.ofNat b.toNat) := by
    conv => lhs; rw [hap]
    rw [List.set_append_right _ _ h1]
  have hcl := cat_le hl.1
  have h16 := hl.2.2
  have hlen : ((cat l).set n (UInt8.ofNat b.toNat)).length = (cat l).length := List.length_set ..
  obtain ⟨r1, l', o, r2, r3, r4, r5, r6⟩ := rec_live (hl.take k) ((cat (l.drop k)).set (n - (cat (l.take k)).length) (UInt8.ofNat b.toNat)) (by rw [← hp, hlen]; omega)
  rw [← hp, ← hset] at r1 r2 r5
  rw [← hp, hlen] at r3
  refine ⟨r1, l', o, r2, r3, r4, ?_, r6⟩
  rw [r5]
  exact (List.map_take (α := Int)).symm

end Go.Proofs.Ytnmeiodaeaabfaa
