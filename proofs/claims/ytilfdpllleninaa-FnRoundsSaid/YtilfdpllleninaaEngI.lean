/- The engine, part I: every operation does what the evaluator says. -/
import Derived.Test.YtilfdpllleninaaEngH
import Derived.Laws.Small
namespace Go.Proofs.Ytilfdpllleninaa
set_option linter.unusedVariables false
set_option linter.unusedSimpArgs false

section
variable {P : Program} {w0 : World} {X : Nat → Prop} {h : Nat → Option Blk} {c : Cx} {tm : Nat → PV} {a : Act}

theorem ropt_sim (ht : ∀ t, VSim c (tm t) (a.tmps.getD t undef)) {x : Option Operand} {p : Option PV} (hd : Does tm h (ropt x) p) : (p = none ∧ x.map a.eval = none) ∨ ∃ q v, p = some q ∧ x.map a.eval = some v ∧ VSim c q v := by
  cases x with
  | none => simp only [ropt, does_ret] at hd; subst hd; exact .inl ⟨rfl, rfl⟩
  | some x =>
    simp only [ropt, does_bind, does_ret] at hd
    obtain ⟨q, h1, rfl⟩ := hd
    exact .inr ⟨q, _, rfl, rfl, rop_sim ht h1⟩

theorem opGood_run {N : Nat → Prop} {o : Oper} {wr : List (Nat × Option Blk)} {p : PV} {s : Sem Value} (hx : (execOp a.eval o).run P c.w = (do pure (Next.value (← s)) : Sem Next).run P c.w) (hg : Good w0 X h wr N c p (s.run P c.w)) : OpGood P o a w0 X h wr N c p := by
  intro K' Q hk
  obtain ⟨v, c', hr, he, hv, hh⟩ := hg
  unfold Oper.wp
  rw [hx]
  simp only [Sem.run_bind, hr, Result.andThen_ok, Sem.run_pure, Oper.upon_value]
  exact hk v c' he hv hh

theorem order_bits {k : FloatKind} {b n : Nat} (q : canon k b = n) (hn : isNaN k n = false) : b = n := by
  rcases canon_of k b with ⟨_, e⟩ | ⟨_, e⟩
  · rw [← q, e]
  · rw [e] at q
    rw [← q, isNaN_qnan] at hn
    cases hn
theorem canon_id {k : FloatKind} {n : Nat} (hn : isNaN k n = false) : canon k n = n := by
  rcases canon_of k n with ⟨_, e⟩ | ⟨h, _⟩
  · exact e
  · rw [hn] at h; cases h

theorem run_fmin {a : Array TypeId} {t : TypeId} {w : World} {k : FloatKind} {b1 b2 n m : Nat} (q1 : canon k b1 = n) (q2 : canon k b2 = m) (hok : ordOk k n m = true) :
    (Builtin.min_ a t #[.float k b1, .float k b2]).run P w = .ok (.float k (fmin k n m)) w ∧ canon k (fmin k n m) = fmin k n m := by
  unfold ordOk at hok
  simp only [Bool.and_eq_true, Bool.not_eq_true'] at hok
  obtain ⟨h0, h1, h2⟩ := hok
  have e1 := order_bits q1 h1
  have e2 := order_bits q2 h2
  subst e1 e2
  have c1 := canon_id h1
  have c2 := canon_id h2
  unfold fmin
  obtain ⟨o, ho⟩ := Option.isSome_iff_exists.1 h0
  rw [ho]
  cases o <;> simp only [Builtin.min_, List.foldlM, Builtin.min2, ho]
  · exact ⟨rfl, c1⟩
  · cases hg : (k.decode b1).neg
    · exact ⟨by simp [Builtin.min2, ho, hg], c2⟩
    · exact ⟨by simp [Builtin.min2, ho, hg], c1⟩
  · exact ⟨rfl, c2⟩
theorem run_fmax {a : Array TypeId} {t : TypeId} {w : World} {k : FloatKind} {b1 b2 n m : Nat} (q1 : canon k b1 = n) (q2 : canon k b2 = m) (hok : ordOk k n m = true) :
    (Builtin.max_ a t #[.float k b1, .float k b2]).run P w = .ok (.float k (fmax k n m)) w ∧ canon k (fmax k n m) = fmax k n m := by
  unfold ordOk at hok
  simp only [Bool.and_eq_true, Bool.not_eq_true'] at hok
  obtain ⟨h0, h1, h2⟩ := hok
  have e1 := order_bits q1 h1
  have e2 := order_bits q2 h2
  subst e1 e2
  have c1 := canon_id h1
  have c2 := canon_id h2
  unfold fmax
  obtain ⟨o, ho⟩ := Option.isSome_iff_exists.1 h0
  rw [ho]
  cases o <;> simp only [Builtin.max_, List.foldlM, Builtin.max2, ho]
  · exact ⟨rfl, c2⟩
  · cases hg : (k.decode b1).neg
    · exact ⟨by simp [Builtin.max2, ho, hg], c1⟩
    · exact ⟨by simp [Builtin.max2, ho, hg], c2⟩
  · exact ⟨rfl, c1⟩

theorem opR_sound {Γ : Gam} (hΓ : GamOK P Γ) {T : TT} (hT : TTOK P T) (hs : HSim w0 X h c) (ht : ∀ t, VSim c (tm t) (a.tmps.getD t undef)) {idb : Nat} (hid : ∀ n, idb ≤ n → n < idb + 8 → ¬ c.K n) {o : Oper} {r : OR} (hd : Does tm h (opR Γ T idb o) r) :
    OpGood P o a w0 X h r.wr (fun n => idb ≤ n ∧ n < idb + 8) c r.v := by
  have hN : (fun n => idb ≤ n ∧ n < idb + 8) idb := ⟨Nat.le_refl _, by omega⟩
  have hid0 : ¬ c.K idb := hid idb (Nat.le_refl _) (by omega)
  unfold opR at hd
  split at hd
  · -- move
    rename_i x e
    simp only [does_bind, does_okv] at hd
    obtain ⟨p, h1, rfl⟩ := hd
    intro K' Q hk
    unfold Oper.wp execOp
    simp only [e, Sem.run_pure, Oper.upon_value]
    exact hk _ c (Ext.refl _ c) (rop_sim ht h1) hs
  · -- assign
    rename_i x e
    simp only [does_bind, does_okv] at hd
    obtain ⟨p, h1, rfl⟩ := hd
    intro K' Q hk
    unfold Oper.wp execOp
    simp only [e, Sem.run_pure, Oper.upon_value]
    exact hk _ c (Ext.refl _ c) (rop_sim ht h1) hs
  · -- pick
    rename_i x y z e
    simp only [does_bind] at hd
    obtain ⟨p, h1, hd⟩ := hd
    split at hd
    · rename_i b
      have hb := rop_sim ht h1
      simp only [VSim] at hb
      simp only [does_bind, does_ask] at hd
      obtain ⟨b', rfl, hd⟩ := hd
      intro K' Q hk
      unfold Oper.wp execOp
      simp only [e, hb, asBool, Sem.run_bind, Sem.run_pure, Result.andThen_ok, Oper.upon_value]
      split at hd
      · simp only [does_bind, does_okv] at hd
        obtain ⟨p, h2, rfl⟩ := hd
        rw [if_pos rfl]
        exact hk _ c (Ext.refl _ c) (rop_sim ht h2) hs
      · simp only [does_bind, does_okv] at hd
        obtain ⟨p, h2, rfl⟩ := hd
        rw [if_neg (by simp)]
        exact hk _ c (Ext.refl _ c) (rop_sim ht h2) hs
    · have hb := rop_sim ht h1
      simp only [VSim] at hb
      simp only [does_bind, does_okv] at hd
      obtain ⟨p, h2, rfl⟩ := hd
      intro K' Q hk
      unfold Oper.wp execOp
      simp only [e, hb, asBool, Sem.run_bind, Sem.run_pure, Result.andThen_ok, Oper.upon_value]
      rw [if_pos trivial]
      exact hk _ c (Ext.refl _ c) (rop_sim ht h2) hs
    · have hb := rop_sim ht h1
      simp only [VSim] at hb
      simp only [does_bind, does_okv] at hd
      obtain ⟨p, h2, rfl⟩ := hd
      intro K' Q hk
      unfold Oper.wp execOp
      simp only [e, hb, asBool, Sem.run_bind, Sem.run_pure, Result.andThen_ok, Oper.upon_value]
      rw [if_neg (by simp)]
      exact hk _ c (Ext.refl _ c) (rop_sim ht h2) hs
    · simp at hd
  · -- alloc
    rename_i t e
    simp only [does_bind, does_ti, does_ret] at hd
    obtain ⟨i, hi, rfl⟩ := hd
    exact opGood_of (by unfold execOp; rw [e]) (alloc_good hs hN hid0 (hT t i hi))
  · -- box
    rename_i t x e
    simp only [does_bind, does_lift, does_ret] at hd
    obtain ⟨p, h1, cs, hcs, rfl⟩ := hd
    exact opGood_of (s := Instr.box t (a.eval x)) (by unfold execOp; rw [e]) (box_good hs hN hid0 (rop_sim ht h1) hcs)
  · -- build
    rename_i t ps e
    simp only [does_bind, does_ti] at hd
    obtain ⟨i, hi, vs, hvs, hd⟩ := hd
    have hp := rops2_sim ht hvs
    have hx : execOp a.eval o = (do pure (Next.value (← Instr.build t (ps.map fun (i, x) => (i, a.eval x))))) := by unfold execOp; rw [e]
    split at hd
    · rename_i fs hfs
      simp only [does_bind, does_lift, does_okv] at hd
      obtain ⟨pl, hpl, cs, hcs, rfl⟩ := hd
      exact opGood_of hx (build_struct_good hs hT (hT t i hi) hfs hpl (by simpa using hp) hcs)
    · rename_i n e' hfs
      simp only [does_bind, does_lift, does_okv, does_ti] at hd
      obtain ⟨j, hj, cs, hcs, rfl⟩ := hd
      exact opGood_of hx (build_arr_good hs (hT t i hi) (hT e' j hj) hfs (by simpa using hp) hcs)
    · simp at hd
  · -- buildSlice
    rename_i t len ps e
    simp only [does_bind, does_ti] at hd
    obtain ⟨i, hi, vs, hvs, hd⟩ := hd
    have hp := rops2_sim ht hvs
    have hx : execOp a.eval o = (do pure (Next.value (← Instr.buildSlice t len (ps.map fun (i, x) => (i, a.eval x))))) := by unfold execOp; rw [e]
    split at hd
    · rename_i e' hfs
      simp only [does_bind, does_lift, does_ti] at hd
      obtain ⟨j, hj, hd⟩ := hd
      split at hd
      · simp only [does_bind, does_lift] at hd
        obtain ⟨cs, hcs, xs, hxs, hd⟩ := hd
        rw [cond_eq_ite] at hd
        split at hd
        · rename_i hc
          simp only [and_true_iff] at hc
          obtain ⟨⟨hb, hju⟩, hjz⟩ := hc
          simp only [does_ret] at hd
          subst hd
          exact opGood_of hx (buildSlice_good hs hN hid0 (hT t i hi) (hT e' j hj) hfs (by simpa using hp) hcs hxs (Nat.le_of_ble_eq_true hb) (eq_of_beq hju) (eq_of_beq hjz))
        · simp at hd
      · simp only [does_bind, does_lift] at hd
        obtain ⟨cs, hcs, hd⟩ := hd
        rw [cond_eq_ite] at hd
        split at hd
        · rename_i hc
          simp only [and_true_iff] at hc
          obtain ⟨⟨⟨⟨hb, hju⟩, hjz⟩, hl⟩, h0⟩ := hc
          simp only [does_ret] at hd
          subst hd
          exact opGood_of hx (buildLst_good hs (hT t i hi) (hT e' j hj) hfs (by simpa using hp) hcs (Nat.le_of_ble_eq_true hb) (eq_of_beq hju) (eq_of_beq hjz) (eq_of_beq hl) (by simpa [Nat.blt_eq] using h0))
        · simp at hd
    · simp at hd
  · -- load
    rename_i t x e
    simp only [does_bind, does_ti, does_okv] at hd
    obtain ⟨i, hi, p, h1, q, h2, rfl⟩ := hd
    exact opGood_of (s := Instr.loadAt t (a.eval x)) (by unfold execOp; rw [e]) (loadR_good (hT t i hi) hs (rop_sim ht h1) h2)
  · -- store
    rename_i t x y e
    simp only [does_bind, does_ti] at hd
    obtain ⟨i, hi, p, h1, q, h2, hd⟩ := hd
    exact storeR_good hs e (hT t i hi) (rop_sim ht h1) (rop_sim ht h2) hd
  · -- nilCheck
    rename_i x e
    simp only [does_bind] at hd
    obtain ⟨p, h1, hd⟩ := hd
    have hv := rop_sim ht h1
    split at hd
    · simp only [does_okv] at hd
      subst hd
      have hv' := hv
      simp only [VSim] at hv'
      obtain ⟨_, b, _, hv'⟩ := hv'
      exact nilCheck_good hs e hv ⟨_, _, hv'⟩
    · simp only [does_okv] at hd
      subst hd
      have hv' := hv
      simp only [VSim] at hv'
      obtain ⟨_, b, _, _, _, hv'⟩ := hv'
      exact nilCheck_good hs e hv ⟨_, _, hv'⟩
    · simp only [does_okv] at hd
      subst hd
      have hv' := hv
      simp only [VSim] at hv'
      obtain ⟨b, off, _, hv', _⟩ := hv'
      exact nilCheck_good hs e hv ⟨_, _, hv'⟩
    · simp at hd
  · -- binOp
    rename_i op t x y yt e
    simp only [does_bind, does_okv] at hd
    obtain ⟨p, h1, q, h2, r', h3, rfl⟩ := hd
    exact opGood_of (s := do eqGuard op t x y (a.eval x) (a.eval y); binOp op t (a.eval x) (a.eval y)) (by unfold execOp; rw [e]) (binR_good hs hT (rop_sim ht h1) (rop_sim ht h2) h3 x y)
  · -- unOp
    rename_i op t x e
    simp only [does_bind, does_okv] at hd
    obtain ⟨p, h1, q, h2, rfl⟩ := hd
    exact opGood_of (s := Op.unary op (a.eval x)) (by unfold execOp; rw [e]) (unR_good hs (rop_sim ht h1) h2)
  · -- convert
    rename_i s d x e
    simp only [does_bind, does_ti] at hd
    obtain ⟨i, hi, j, hj, p, h1, hd⟩ := hd
    exact opGood_of (s := convert s d (a.eval x)) (by unfold execOp; rw [e]) (convO_good hs hT hN hid0 (hT s i hi) (hT d j hj) (rop_sim ht h1) hd)
  · -- makeFunc
    rename_i fn f cp e
    simp only [does_bind, does_okv] at hd
    obtain ⟨f', h1, c', h2, rfl⟩ := hd
    refine opGood_of (s := Instr.makeFunc fn (f.map a.eval) (cp.map a.eval)) (by unfold execOp; rw [e]) (good_pure hs (v := .func fn (f.map a.eval) (cp.map a.eval)) rfl ?_)
    simp only [VSim]
    exact ⟨_, _, rfl, by simpa using rops_sim ht h1, by simpa using rops_sim ht h2⟩
  · -- makeSlice
    rename_i t l m e
    simp only [does_bind, does_ti] at hd
    obtain ⟨i, hi, p, h1, q, h2, hd⟩ := hd
    split at hd
    · rename_i e' kl n km m' hfs
      simp only [does_bind, does_ti, does_lift, does_need, and_true_iff, decide_eq_true_eq] at hd
      obtain ⟨j, hj, u, hu, z, hz, _, ⟨⟨⟨h3, h4⟩, h5⟩, h6⟩, hd⟩ := hd
      rw [cond_eq_ite] at hd
      split at hd
      · rename_i hju
        simp only [does_ret] at hd
        subst hd
        have e1 := rop_sim ht h1
        have e2 := rop_sim ht h2
        simp only [VSim] at e1 e2
        have hg := makeSlice_good (N := fun n => idb ≤ n ∧ n < idb + 8) hs hN hid0 (hT t i hi) (hT e' j hj) hfs hz (eq_of_beq hju) (kl := kl) (kc := km) h3 h4 h5 h6
        rw [← e1, ← e2] at hg
        exact opGood_of (by unfold execOp; rw [e]) hg
      · simp at hd
    · simp at hd
  · -- slice
    rename_i t x lo hi e
    simp only [does_bind, does_ti, does_okv] at hd
    obtain ⟨i, hi', p, h1, l, h2, m, h3, q, h4, rfl⟩ := hd
    exact opGood_of (s := Instr.sliceAt t (a.eval x) (lo.map a.eval) (hi.map a.eval) none) (by unfold execOp; rw [e]; rfl) (sliceR_good hs hT (hT t i hi') (rop_sim ht h1) (ropt_sim ht h2) (ropt_sim ht h3) h4)
  · -- fieldAddr
    rename_i t x k e
    simp only [does_bind, does_ti] at hd
    obtain ⟨i, hi, p, h1, hd⟩ := hd
    split at hd
    · rename_i fs hfs
      simp only [does_bind, does_lift] at hd
      obtain ⟨⟨o', ft⟩, hk, hd⟩ := hd
      simp only [does_bind, does_ti] at hd
      obtain ⟨j, hj, hd⟩ := hd
      rw [cond_eq_ite] at hd
      split at hd
      · simp at hd
      · rename_i hz
        simp only [does_bind, does_lift, does_okv] at hd
        obtain ⟨q, hq, rfl⟩ := hd
        exact opGood_of (s := Instr.fieldAt t (a.eval x) k) (by unfold execOp; rw [e]) (fieldAddr_good (hT t i hi) (hT ft j hj) hs hfs hk (by simpa using hz) (rop_sim ht h1) hq)
    · simp at hd
  · -- field
    rename_i t x k e
    simp only [does_bind, does_ti] at hd
    obtain ⟨i, hi, p, h1, hd⟩ := hd
    split at hd
    · rename_i fs cs hfs
      simp only [does_bind, does_lift] at hd
      obtain ⟨⟨o', ft⟩, hk, hd⟩ := hd
      simp only [does_bind, does_ti, does_lift, does_okv] at hd
      obtain ⟨j, hj, q, hq, rfl⟩ := hd
      exact opGood_of (s := Instr.field t (a.eval x) k) (by unfold execOp; rw [e]) (field_good (hT t i hi) (hT ft j hj) hs hfs hk (rop_sim ht h1) hq)
    · simp at hd
  · -- indexAddr
    rename_i t x y e
    simp only [does_bind, does_ti, does_okv] at hd
    obtain ⟨i, hi, p, h1, q, h2, r', h3, rfl⟩ := hd
    exact opGood_of (s := Instr.indexAt t (a.eval x) (a.eval y)) (by unfold execOp; rw [e]) (idxR_good hs hT (hT t i hi) (rop_sim ht h1) (rop_sim ht h2) h3)
  · -- index
    rename_i t x y e
    simp only [does_bind, does_ti, does_okv] at hd
    obtain ⟨i, hi, p, h1, q, h2, r', h3, rfl⟩ := hd
    exact opGood_of (s := Instr.index t (a.eval x) (a.eval y)) (by unfold execOp; rw [e]) (indexR_good hs hT (hT t i hi) (rop_sim ht h1) (rop_sim ht h2) h3)
  · -- extract
    rename_i x n e
    simp only [does_bind] at hd
    obtain ⟨p, h1, hd⟩ := hd
    split at hd
    · simp only [does_bind, does_lift, does_okv] at hd
      obtain ⟨q, hq, rfl⟩ := hd
      exact opGood_of (s := Instr.extract (a.eval x) n) (by unfold execOp; rw [e]) (extract_good hs (rop_sim ht h1) hq)
    · simp at hd
  · -- call
    rename_i cl e
    split at hd
    · rename_i f hf
      simp only [does_bind] at hd
      obtain ⟨p, h1, hd⟩ := hd
      split at hd
      · rename_i g first cap
        simp only [does_bind] at hd
        obtain ⟨args, h2, hd⟩ := hd
        have hv := rop_sim ht h1
        simp only [VSim] at hv
        obtain ⟨f', c', hv, hs1, hs2⟩ := hv
        have ha := rops_sim ht h2
        have hall : VSims c (first ++ args ++ cap) (f' ++ (cl.args.map a.eval) ++ c').toList := by
          refine (VSims_iff c _ _).2 ?_
          rw [Array.toList_append, Array.toList_append, Array.toList_map]
          exact (((VSims_iff c _ _).1 hs1).append ((VSims_iff c _ _).1 ha)).append ((VSims_iff c _ _).1 hs2)
        intro K' Q hk
        unfold Oper.wp
        have hx : (execOp a.eval o).run P c.w = (callFunc g (f' ++ (cl.args.map a.eval) ++ c')).run P c.w := by
          unfold execOp
          rw [e]
          simp only [resolve, hf, hv, Deferred.ofValue, Sem.run_bind, Sem.run_pure, Result.andThen_ok, invoke]
        rw [hx]
        split at hd
        · rename_i M hM
          exact callB_good hs (hΓ.boxs g M hM) hall hd o a K' Q hk
        · split at hd
          · rename_i M hM
            exact callN_good hs (hΓ.news g M hM) ⟨Nat.le_refl _, by omega⟩ (hid idb (Nat.le_refl _) (by omega)) hall hd o a K' Q hk
          · split at hd
            · rename_i M hM
              exact callM_good hs (hΓ.muts g M hM) hall hd o a K' Q hk
            · exact callR_good hs hΓ (fun n h1 h2 => ⟨h1, h2⟩) hid hall hd o a K' Q hk
      · simp at hd
    · rename_i hf
      split at hd
      · rename_i x t h1 h2
        simp only [does_bind, does_ti, does_okv] at hd
        obtain ⟨i, hi, p, h3, q, h4, rfl⟩ := hd
        have hargs : cl.args = #[x] := by rw [← Array.toList_inj]; exact h1
        have hats : cl.argTypes = #[t] := by rw [← Array.toList_inj]; exact h2
        refine opGood_run (s := Builtin.len_ #[t] o.type #[a.eval x]) ?_ (lenR_good hs (hT t i hi) (rop_sim ht h3) h4)
        unfold execOp
        rw [e]
        simp [resolve, hf, hargs, hats, invoke, builtin]
      · simp at hd
    · rename_i hf
      split at hd
      · rename_i x y t t' h1 h2
        simp only [does_bind, does_ti] at hd
        obtain ⟨i, hi, hd⟩ := hd
        split at hd
        · rename_i e' hfs
          simp only [does_bind] at hd
          obtain ⟨p, h3, q, h4, hd⟩ := hd
          rw [cond_eq_ite] at hd
          split at hd
          · rename_i htt
            have htt := eq_of_beq htt
            subst htt
            have hargs : cl.args = #[x, y] := by rw [← Array.toList_inj]; exact h1
            have hats : cl.argTypes = #[t, t] := by rw [← Array.toList_inj]; exact h2
            have hu := (hT t i hi).d
            rw [hfs] at hu
            refine opGood_run (s := Builtin.append_ #[t, t] o.type #[a.eval x, a.eval y]) ?_ (appendR_good hs hT hN hid0 hu (rop_sim ht h3) (rop_sim ht h4) hd)
            unfold execOp
            rw [e]
            simp [resolve, hf, hargs, hats, invoke, builtin]
          · simp only [does_bind, does_ti] at hd
            obtain ⟨i', hi', hd⟩ := hd
            split at hd
            · rename_i l e1
              have hargs : cl.args = #[x, y] := by rw [← Array.toList_inj]; exact h1
              have hats : cl.argTypes = #[t, t'] := by rw [← Array.toList_inj]; exact h2
              have hu := (hT t i hi).d
              rw [hfs] at hu
              have hu' := (hT t' i' hi').d
              rw [e1] at hu'
              refine opGood_run (s := Builtin.append_ #[t, t'] o.type #[a.eval x, a.eval y]) ?_ (appendS_good hs hT hN hid0 hu hu' (rop_sim ht h3) (rop_sim ht h4) hd)
              unfold execOp
              rw [e]
              simp [resolve, hf, hargs, hats, invoke, builtin]
            · simp at hd
        · simp at hd
      · simp at hd
    · rename_i hf
      split at hd
      · rename_i x y h1
        simp only [does_bind] at hd
        obtain ⟨p, h3, q, h4, hd⟩ := hd
        split at hd
        · rename_i k n k' m
          simp only [does_okv] at hd
          subst hd
          have hargs : cl.args = #[x, y] := by rw [← Array.toList_inj]; exact h1
          have g3 := rop_sim ht h3
          have g4 := rop_sim ht h4
          simp only [VSim] at g3 g4
          refine opGood_run (s := Builtin.min_ cl.argTypes o.type #[a.eval x, a.eval y]) ?_ ?_
          · unfold execOp
            rw [e]
            simp [resolve, hf, hargs, invoke, builtin]
          · rw [g3, g4]
            refine good_pure hs (run_min_int2 (P := P) (w := c.w) _ _ _ _ _ _) ?_
            simp only [VSim, cond_eq_ite, decide_eq_true_eq]
        · rename_i k n k' m
          simp only [does_bind, does_need, Bool.and_eq_true, decide_eq_true_eq] at hd
          obtain ⟨_, ⟨hk, hok⟩, hd⟩ := hd
          subst hk
          simp only [does_okv] at hd
          subst hd
          have hargs : cl.args = #[x, y] := by rw [← Array.toList_inj]; exact h1
          have g3 := rop_sim ht h3
          have g4 := rop_sim ht h4
          simp only [VSim] at g3 g4
          obtain ⟨b1, e1, q1⟩ := g3
          obtain ⟨b2, e2, q2⟩ := g4
          refine opGood_run (s := Builtin.min_ cl.argTypes o.type #[a.eval x, a.eval y]) ?_ ?_
          · unfold execOp
            rw [e]
            simp [resolve, hf, hargs, invoke, builtin]
          · rw [e1, e2]
            obtain ⟨d1, d2⟩ := run_fmin (P := P) (w := c.w) (a := cl.argTypes) (t := o.type) q1 q2 hok
            exact good_pure hs d1 (by simp only [VSim]; exact ⟨_, rfl, d2⟩)
        · simp at hd
      · simp at hd
    · rename_i hf
      split at hd
      · rename_i x y h1
        simp only [does_bind] at hd
        obtain ⟨p, h3, q, h4, hd⟩ := hd
        split at hd
        · rename_i k n k' m
          simp only [does_okv] at hd
          subst hd
          have hargs : cl.args = #[x, y] := by rw [← Array.toList_inj]; exact h1
          have g3 := rop_sim ht h3
          have g4 := rop_sim ht h4
          simp only [VSim] at g3 g4
          refine opGood_run (s := Builtin.max_ cl.argTypes o.type #[a.eval x, a.eval y]) ?_ ?_
          · unfold execOp
            rw [e]
            simp [resolve, hf, hargs, invoke, builtin]
          · rw [g3, g4]
            refine good_pure hs (v := .int k (if m > n then m else n)) rfl ?_
            simp only [VSim, cond_eq_ite, decide_eq_true_eq]
        · rename_i k n k' m
          simp only [does_bind, does_need, Bool.and_eq_true, decide_eq_true_eq] at hd
          obtain ⟨_, ⟨hk, hok⟩, hd⟩ := hd
          subst hk
          simp only [does_okv] at hd
          subst hd
          have hargs : cl.args = #[x, y] := by rw [← Array.toList_inj]; exact h1
          have g3 := rop_sim ht h3
          have g4 := rop_sim ht h4
          simp only [VSim] at g3 g4
          obtain ⟨b1, e1, q1⟩ := g3
          obtain ⟨b2, e2, q2⟩ := g4
          refine opGood_run (s := Builtin.max_ cl.argTypes o.type #[a.eval x, a.eval y]) ?_ ?_
          · unfold execOp
            rw [e]
            simp [resolve, hf, hargs, invoke, builtin]
          · rw [e1, e2]
            obtain ⟨d1, d2⟩ := run_fmax (P := P) (w := c.w) (a := cl.argTypes) (t := o.type) q1 q2 hok
            exact good_pure hs d1 (by simp only [VSim]; exact ⟨_, rfl, d2⟩)
        · simp at hd
      · simp at hd
    · rename_i hf
      split at hd
      · rename_i x y h1
        simp only [does_bind] at hd
        obtain ⟨p, h3, q, h4, hd⟩ := hd
        split at hd
        · rename_i k n k' m
          rw [cond_eq_ite] at hd
          split at hd
          · rename_i hk
            have hk := of_decide_eq_true hk
            subst hk
            simp only [does_okv] at hd
            subst hd
            have hargs : cl.args = #[x, y] := by rw [← Array.toList_inj]; exact h1
            have g3 := rop_sim ht h3
            have g4 := rop_sim ht h4
            simp only [VSim] at g3 g4
            obtain ⟨b1, e1, q1⟩ := g3
            obtain ⟨b2, e2, q2⟩ := g4
            refine opGood_run (s := Builtin.complex_ cl.argTypes o.type #[a.eval x, a.eval y]) ?_ ?_
            · unfold execOp
              rw [e]
              simp [resolve, hf, hargs, invoke, builtin]
            · rw [e1, e2]
              refine good_pure hs (v := .complex k b1 b2) (by show ((if k = k then pure (.complex k b1 b2) else stuck _ : Sem Value)).run P c.w = _; rw [if_pos rfl]; rfl) ?_
              simp only [VSim]
              exact ⟨_, _, rfl, q1, q2⟩
          · simp at hd
        · simp at hd
      · simp at hd
    · rename_i hf
      split at hd
      · rename_i x h1
        simp only [does_bind] at hd
        obtain ⟨p, h3, hd⟩ := hd
        split at hd
        · rename_i k n m
          simp only [does_okv] at hd
          subst hd
          have hargs : cl.args = #[x] := by rw [← Array.toList_inj]; exact h1
          have g3 := rop_sim ht h3
          simp only [VSim] at g3
          obtain ⟨b1, b2, e1, q1, q2⟩ := g3
          refine opGood_run (s := Builtin.real_ cl.argTypes o.type #[a.eval x]) ?_ ?_
          · unfold execOp
            rw [e]
            simp [resolve, hf, hargs, invoke, builtin]
          · rw [e1]
            refine good_pure hs (v := .float k b1) rfl ?_
            simp only [VSim]
            exact ⟨_, rfl, q1⟩
        · simp at hd
      · simp at hd
    · rename_i hf
      split at hd
      · rename_i x h1
        simp only [does_bind] at hd
        obtain ⟨p, h3, hd⟩ := hd
        split at hd
        · rename_i k n m
          simp only [does_okv] at hd
          subst hd
          have hargs : cl.args = #[x] := by rw [← Array.toList_inj]; exact h1
          have g3 := rop_sim ht h3
          simp only [VSim] at g3
          obtain ⟨b1, b2, e1, q1, q2⟩ := g3
          refine opGood_run (s := Builtin.imag_ cl.argTypes o.type #[a.eval x]) ?_ ?_
          · unfold execOp
            rw [e]
            simp [resolve, hf, hargs, invoke, builtin]
          · rw [e1]
            refine good_pure hs (v := .float k b2) rfl ?_
            simp only [VSim]
            exact ⟨_, rfl, q2⟩
        · simp at hd
      · simp at hd
    · simp at hd
  · simp at hd

end
end Go.Proofs.Ytilfdpllleninaa
