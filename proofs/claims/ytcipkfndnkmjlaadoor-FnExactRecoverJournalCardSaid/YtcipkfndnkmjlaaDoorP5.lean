/- Plain law of RecoverJournal, part 3: the two recoveries are one; marks of texts; the law. -/
import Derived.Test.YtcipkfndnkmjlaaDoorP4
namespace Go.Proofs.YtcipkfndnkmjlaaDoor
set_option linter.unusedVariables false
set_option linter.unusedSimpArgs false

theorem cuts_mem_le : ∀ {s : List UInt8} {c : List UInt8}, c ∈ cuts s → c.length ≤ s.length
  | [], c, h => by
    have h : c ∈ [[]] := h
    rw [List.mem_singleton.1 h]
    exact Nat.le_refl _
  | b :: r, c, h => by
    rw [cuts] at h
    cases hb : b == 10 with
    | true =>
      rw [hb] at h
      rcases List.mem_cons.1 h with e | e
      · rw [e]; simp
      · have := cuts_mem_le e; simp only [List.length_cons]; omega
    | false =>
      rw [hb] at h
      cases hc : cuts r with
      | nil => have := cuts_pos r; rw [hc] at this; simp at this
      | cons d ds =>
        rw [hc] at h
        rcases List.mem_cons.1 h with e | e
        · rw [e]
          have := cuts_mem_le (s := r) (c := d) (by rw [hc]; exact List.mem_cons_self ..)
          simp only [List.length_cons]; omega
        · have := cuts_mem_le (s := r) (c := c) (by rw [hc]; exact List.mem_cons_of_mem _ e)
          simp only [List.length_cons]; omega

theorem row_le (t : List UInt8) (i : Nat) : ((linesP t).getD i default).length ≤ t.length := by
  rw [List.getD_eq_getElem?_getD]
  cases h : (linesP t)[i]? with
  | none => show ([] : List UInt8).length ≤ _; simp
  | some c =>
    have hm : c ∈ cuts t := List.mem_of_mem_take (List.mem_of_getElem? h)
    exact cuts_mem_le hm

theorem linesP_length (t : List UInt8) : (linesP t).length = (cuts t).length - 1 := by
  unfold linesP
  rw [List.length_take]
  omega

/-- What holds between the rounds. -/
def Mid (t : List UInt8) (chk n : Int) (i : Nat) (out : List (List UInt8)) : Prop :=
  0 ≤ chk ∧ chk < 65003 ∧ 0 ≤ n ∧ n ≤ (t.length : Int) ∧ i ≤ (linesP t).length ∧ cuts (t.drop n.toNat) = (cuts t).drop i ∧ out.length ≤ i

/-- The row at which a round stands. -/
theorem mid_row {t : List UInt8} {chk n : Int} {i : Nat} {out : List (List UInt8)} (h : Mid t chk n i out) (hi : i < (linesP t).length) :
    ∃ m : Nat, Go.Lib.indexByte (t.drop n.toNat) 10 = (m : Int) ∧ m < (t.drop n.toNat).length ∧ (t.drop n.toNat).take m = (linesP t).getD i default ∧ ((linesP t).getD i default).length = m ∧ cuts ((t.drop n.toNat).drop (m + 1)) = (cuts t).drop (i + 1) := by
  obtain ⟨_, _, h3, h4, h5, h6, _⟩ := h
  have hll := linesP_length t
  have hcl := cuts_len (t.drop n.toNat)
  rw [h6, List.length_drop] at hcl
  have hc : 10 ∈ t.drop n.toNat := List.count_pos_iff.1 (by omega)
  obtain ⟨m, x1, x2, x3⟩ := index_cut hc
  have hd : (cuts t).drop i = (cuts t)[i]'(by omega) :: (cuts t).drop (i + 1) := List.drop_eq_getElem_cons (by omega)
  rw [h6, hd] at x3
  have e1 := (List.cons.inj x3).1
  have e2 := (List.cons.inj x3).2
  have hrow : (linesP t).getD i default = (cuts t)[i]'(by omega) := by
    rw [List.getD_eq_getElem?_getD]
    unfold linesP
    rw [List.getElem?_take_of_lt (by omega), List.getElem?_eq_getElem (by omega), Option.getD_some]
  refine ⟨m, x1, x2, by rw [hrow, e1], ?_, e2.symm⟩
  rw [hrow, e1, List.length_take]
  omega

theorem mid_next {t : List UInt8} {chk n : Int} {i : Nat} {out : List (List UInt8)} (ht : t.length ≤ 2 ^ 40) (h : Mid t chk n i out) {c n' : Int} {i' : Nat} {out' : List (List UInt8)} (hr : recRound (linesP t) chk n i out = .inl (c, n', i', out')) : i' = i + 1 ∧ i < (linesP t).length ∧ Mid t c n' i' out' := by
  unfold recRound at hr
  rcases Nat.lt_or_ge i (linesP t).length with hlt | hge
  · obtain ⟨m, x1, x2, x3, x4, x5⟩ := mid_row h hlt
    obtain ⟨h1, h2, h3, h4, h5, h6, h7⟩ := h
    rw [decide_eq_true hlt] at hr
    simp only at hr
    cases hneg : decide (Go.Lib.indexByte ((linesP t).getD i default) 32 < 0) with
    | true => rw [hneg] at hr; cases hr
    | false =>
      rw [hneg] at hr
      simp only at hr
      split at hr
      · cases hr
      · simp only [Sum.inl.injEq, Prod.mk.injEq] at hr
        obtain ⟨rfl, rfl, rfl, rfl⟩ := hr
        have hrl := row_le t i
        obtain ⟨_, _, _, c4, c5⟩ := check_same (((linesP t).getD i default).drop ((Go.Lib.indexByte ((linesP t).getD i default) 32).toNat + 1)) (by rw [List.length_drop]; omega) chk h1 h2
        rw [List.length_drop] at x2
        refine ⟨rfl, hlt, c4, c5, by omega, by omega, hlt, ?_, by rw [List.length_append]; simp; omega⟩
        rw [List.drop_drop] at x5
        rw [show (n + (((linesP t).getD i default).length : Int) + 1).toNat = n.toNat + (m + 1) from by omega]
        exact x5
  · rw [decide_eq_false (by omega)] at hr
    cases hr

theorem impl_round (t : List UInt8) (ht : t.length ≤ 2 ^ 40) (chk n : Int) (i : Nat) (out : List (List UInt8)) (h : Mid t chk n i out) :
    ∃ fl, (impl_RecoverJournal_loop0_step t (chk, n, out)).get = some (implOut (recRound (linesP t) chk n i out), fl) := by
  have hmid := h
  obtain ⟨h1, h2, h3, h4, h5, h6, h7⟩ := h
  have hol : out.length ≤ 2 ^ 41 := by
    have := linesP_length t
    have := cuts_le t
    omega
  have e0 : (decide (0 ≤ n) && decide (n ≤ ((t.length : Nat) : Int))) = true := by
    rw [decide_eq_true h3, decide_eq_true h4]; rfl
  obtain ⟨x, hx⟩ : ∃ x, x = t.drop n.toNat := ⟨_, rfl⟩
  have hxl : x.length ≤ t.length := by rw [hx, List.length_drop]; omega
  have cut32 : ∀ s : List UInt8, s.length ≤ 2 ^ 40 → strings_Cut_k32_need s = true ∧ (strings_Cut_k32 s).2.1.length ≤ s.length := by
    intro s hs
    by_cases h : 32 ∈ s
    · obtain ⟨m, y1, y2, _, _⟩ := index_split 32 h
      obtain ⟨z1, z2⟩ := cutAt32_some y1 y2 hs
      exact ⟨z1, by rw [z2]; simp only [List.length_drop]; omega⟩
    · obtain ⟨z1, z2⟩ := cutAt32_none (index_none 32 h)
      exact ⟨z1, by rw [z2]; simp⟩
  unfold impl_RecoverJournal_loop0_step recRound
  rcases Nat.lt_or_ge i (linesP t).length with hlt | hge
  · obtain ⟨m, x1, x2, x3, x4, x5⟩ := mid_row hmid hlt
    rw [← hx] at x1 x2 x3
    obtain ⟨a1, a2⟩ := cutAt10_some x1 x2 (by omega)
    obtain ⟨row, hr⟩ : ∃ row, row = (linesP t).getD i default := ⟨_, rfl⟩
    rw [← hr] at x3 x4
    rw [x3] at a2
    rw [decide_eq_true hlt]
    simp only [← hr]
    by_cases hs : 32 ∈ row
    · obtain ⟨k, y1, y2, y3, y4⟩ := index_split 32 hs
      obtain ⟨b1, b2⟩ := cutAt32_some y1 y2 (by omega)
      obtain ⟨c1, _, c3, c4, c5⟩ := check_same (row.drop (k + 1)) (by rw [List.length_drop]; omega) chk h1 h2
      obtain ⟨C, hC⟩ : ∃ C, C = spec_l01Check chk (row.drop (k + 1)) := ⟨_, rfl⟩
      rw [← hC] at c3 c4 c5
      obtain ⟨_, _, d3, d4⟩ := dec_itoa C c4 c5
      rw [y1, decide_eq_false (p := ((k : Nat) : Int) < 0) (by omega)]
      simp only [Int.toNat_natCast, ← hC]
      have gl : (decide ((out.length + [row.drop (k + 1)].length) * 16 ≤ 140737488355328) && decide (out.length + [row.drop (k + 1)].length ≤ 9223372036854775807)) = true := by
        show (decide ((out.length + 1) * 16 ≤ 140737488355328) && decide (out.length + 1 ≤ 9223372036854775807)) = true
        rw [decide_eq_true (by omega), decide_eq_true (by omega)]; rfl
      have w1 : IntKind.wrap .i64 (n + ((row.length : Nat) : Int)) = n + ((row.length : Nat) : Int) := wrap_small (by omega) (by omega)
      have w2 : IntKind.wrap .i64 (n + ((row.length : Nat) : Int) + 1) = n + ((row.length : Nat) : Int) + 1 := wrap_small (by omega) (by omega)
      cases hq : (row.take k == Go.Lib.itoa C) with
      | false =>
        refine ⟨[0], ?_⟩
        refine (DT.get_need e0).trans ?_
        simp only [List.take_length, ← hx, a2]
        refine (DT.get_need a1).trans ?_
        simp only [b2]
        refine (DT.get_need b1).trans ?_
        simp only [c3]
        refine (DT.get_need c1).trans ((DT.get_no rfl).trans ((DT.get_no rfl).trans ?_))
        simp only [d4, hq]
        exact (DT.get_need d3).trans ((DT.get_yes rfl).trans rfl)
      | true =>
        refine ⟨[313], ?_⟩
        refine (DT.get_need e0).trans ?_
        simp only [List.take_length, ← hx, a2]
        refine (DT.get_need a1).trans ?_
        simp only [b2]
        refine (DT.get_need b1).trans ?_
        simp only [c3]
        refine (DT.get_need c1).trans ((DT.get_no rfl).trans ((DT.get_no rfl).trans ?_))
        simp only [d4, hq, w1, w2]
        exact (DT.get_need d3).trans ((DT.get_no rfl).trans ((DT.get_need gl).trans rfl))
    · obtain ⟨b1, b2⟩ := cutAt32_none (index_none 32 hs)
      obtain ⟨c1, _⟩ := check_same [] (by simp) chk h1 h2
      rw [index_none 32 hs]
      refine ⟨[0], ?_⟩
      refine (DT.get_need e0).trans ?_
      simp only [List.take_length, ← hx, a2]
      refine (DT.get_need a1).trans ?_
      simp only [b2]
      exact (DT.get_need b1).trans ((DT.get_need c1).trans ((DT.get_no rfl).trans ((DT.get_yes rfl).trans rfl)))
  · have he : i = (linesP t).length := Nat.le_antisymm h5 hge
    have hone : (cuts x).length = 1 := by
      have := linesP_length t
      have := cuts_pos t
      rw [hx, h6, List.length_drop]
      omega
    have hc : 10 ∉ x := by
      have := cuts_len x
      exact fun h => by have := List.count_pos_iff.2 h; omega
    obtain ⟨a1, a2⟩ := cutAt10_none (index_none 10 hc)
    obtain ⟨b1, b2⟩ := cut32 x (by omega)
    obtain ⟨c1, _⟩ := check_same (strings_Cut_k32 x).2.1 (by omega) chk h1 h2
    rw [decide_eq_false (p := i < (linesP t).length) (by omega)]
    refine ⟨[0], ?_⟩
    refine (DT.get_need e0).trans ?_
    simp only [List.take_length, ← hx, a2]
    exact (DT.get_need a1).trans ((DT.get_need b1).trans ((DT.get_need c1).trans ((DT.get_yes rfl).trans rfl)))

theorem recover_loops (t : List UInt8) (ht : t.length ≤ 2 ^ 40) : spec_l08Recover_loop0_ends (linesP t) (0, 0, 0, []) = true ∧ (spec_l08Recover_loop0 (linesP t) (0, 0, 0, [])).2.length ≤ 2 ^ 40 + 1 ∧ impl_RecoverJournal_loop0_ends t (0, 0, []) = true ∧ impl_RecoverJournal_loop0 t (0, 0, []) = spec_l08Recover_loop0 (linesP t) (0, 0, 0, []) := by
  have hll := linesP_length t
  have hcl := cuts_le t
  have h0 : Mid t 0 0 0 [] := ⟨by decide, by decide, by decide, by omega, Nat.zero_le _, rfl, Nat.le_refl _⟩
  have sr : ∀ chk n i out, Mid t chk n i out → ∃ fl, (spec_l08Recover_loop0_step (linesP t) (chk, n, (i : Int), out)).get = some (specOut (recRound (linesP t) chk n i out), fl) := fun chk n i out h => by
    obtain ⟨h1, h2, h3, h4, h5, h6, h7⟩ := h
    exact spec_round (linesP t) (by omega) (fun j => by have := row_le t j; omega) chk n h1 h2 h3 (by omega) i h5 out (by omega)
  have rout : ∀ chk n i out, Mid t chk n i out → ∀ r, recRound (linesP t) chk n i out = .inr r → r = (n, out) := fun chk n i out h r hr => by
    unfold recRound at hr
    split at hr
    · cases hr; rfl
    · split at hr
      · cases hr; rfl
      · split at hr
        · cases hr; rfl
        · cases hr
  obtain ⟨s1, s2⟩ := loop_post (step := spec_l08Recover_loop0_step (linesP t)) (fun s => ∃ i : Nat, s.2.2.1 = (i : Int) ∧ Mid t s.1 s.2.1 i s.2.2.2) (fun s => (linesP t).length - s.2.2.1.toNat) (fun r => r.2.length ≤ 2 ^ 40 + 1) (by
    rintro ⟨chk, n, k, out⟩ ⟨i, hk, h⟩
    simp only at hk h
    subst hk
    obtain ⟨fl, hfl⟩ := sr chk n i out h
    refine ⟨_, fl, hfl, ?_⟩
    cases hq : recRound (linesP t) chk n i out with
    | inl s =>
      obtain ⟨c, n', i', out'⟩ := s
      obtain ⟨rfl, hlt, hm⟩ := mid_next ht h hq
      refine ⟨⟨i + 1, rfl, hm⟩, ?_⟩
      show (linesP t).length - ((i + 1 : Nat) : Int).toNat < (linesP t).length - ((i : Nat) : Int).toNat
      rw [Int.toNat_natCast, Int.toNat_natCast]; omega
    | inr r =>
      obtain rfl := rout chk n i out h r hq
      obtain ⟨_, _, _, _, h5, _, h7⟩ := h
      show out.length ≤ _
      omega) (0, 0, 0, []) ⟨0, rfl, h0⟩
  obtain ⟨i1, i2⟩ := val_rel (step := spec_l08Recover_loop0_step (linesP t)) (step' := impl_RecoverJournal_loop0_step t) (fun s s' => ∃ i : Nat, s.2.2.1 = (i : Int) ∧ s' = (s.1, s.2.1, s.2.2.2) ∧ Mid t s.1 s.2.1 i s.2.2.2) (fun r r' => r = r') (by
    rintro ⟨chk, n, k, out⟩ s' ⟨i, hk, hs', h⟩ o fl ho
    simp only at hk hs' h
    subst hk hs'
    obtain ⟨fl1, hf1⟩ := sr chk n i out h
    obtain ⟨fl2, hf2⟩ := impl_round t ht chk n i out h
    rw [hf1] at ho
    cases ho
    refine ⟨_, fl2, hf2, ?_⟩
    cases hq : recRound (linesP t) chk n i out with
    | inl s =>
      obtain ⟨c, n', i', out'⟩ := s
      obtain ⟨rfl, hlt, hm⟩ := mid_next ht h hq
      exact ⟨i + 1, rfl, rfl, hm⟩
    | inr r => exact rfl) (s := (0, 0, 0, [])) (s' := (0, 0, [])) ⟨0, rfl, rfl, h0⟩ s1
  exact ⟨s1, s2, i1, i2.symm⟩

def recP (t : List UInt8) (R : Int × List (List UInt8)) : Int ⊕ (List (List UInt8) × Int) := match decide (((t.length : Nat) : Int) > 16000) with
  | true => .inl 0
  | false => .inr (R.2, R.1)

theorem recover_same (t : List UInt8) (ht : t.length ≤ 2 ^ 40) : ∃ R : Int × List (List UInt8), R.2.length ≤ 2 ^ 41 ∧ impl_RecoverJournal_need t = true ∧ impl_RecoverJournal t = recP t R ∧ spec_RecoverJournal_need t = true ∧ spec_RecoverJournal t = recP t R := by
  obtain ⟨s1, s2, i1, i2⟩ := recover_loops t ht
  obtain ⟨l1, l2⟩ := lines_spec t ht
  refine ⟨spec_l08Recover_loop0 (linesP t) (0, 0, 0, []), by omega, ?_⟩
  have ki : (impl_RecoverJournal_tree t).get = some (recP t (spec_l08Recover_loop0 (linesP t) (0, 0, 0, []))) := by
    unfold impl_RecoverJournal_tree recP
    cases hb : decide (((t.length : Nat) : Int) > 16000) with
    | true => exact (DT.get_yes hb).trans rfl
    | false =>
      refine (DT.get_no hb).trans ((DT.get_need i1).trans ?_)
      rw [DT.get_leaf, i2]
  have ks0 : (spec_l08Recover_tree t).get = some ((spec_l08Recover_loop0 (linesP t) (0, 0, 0, [])).2, (spec_l08Recover_loop0 (linesP t) (0, 0, 0, [])).1) := by
    unfold spec_l08Recover_tree
    refine (DT.get_need l1).trans ?_
    simp only [l2]
    exact (DT.get_need s1).trans rfl
  obtain ⟨q1, q2⟩ := DT.of_get ks0
  have q1 : spec_l08Recover_need t = true := q1
  have q2 : spec_l08Recover t = _ := q2
  have ks : (spec_RecoverJournal_tree t).get = some (recP t (spec_l08Recover_loop0 (linesP t) (0, 0, 0, []))) := by
    unfold spec_RecoverJournal_tree recP
    cases hb : decide (((t.length : Nat) : Int) > 16000) with
    | true => exact (DT.get_yes hb).trans rfl
    | false =>
      refine (DT.get_no hb).trans ((DT.get_need q1).trans ?_)
      simp only [q2]
      rfl
  obtain ⟨a1, a2⟩ := DT.of_get ki
  obtain ⟨b1, b2⟩ := DT.of_get ks
  exact ⟨a1, a2, b1, b2⟩

end Go.Proofs.YtcipkfndnkmjlaaDoor
