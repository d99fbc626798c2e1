/- The engine, part E: operations on numbers, strings, indices. -/
import Derived.Test.YtilfdpllleninaaEngD
import Derived.Laws.Strings
namespace Go.Proofs.Ytilfdpllleninaa
set_option linter.unusedVariables false
set_option linter.unusedSimpArgs false

section
variable {P : Program} {w0 : World} {X : Nat → Prop} {h : Nat → Option Blk} {N : Nat → Prop} {c : Cx} {tm : Nat → PV} {a : Act}

theorem good_int (hs : HSim w0 X h c) {k : IntKind} {n : Int} {r : Result Value} (hr : r = .ok (.int k n) c.w) : Good w0 X h [] N c (.int k n) r := good_pure hs hr (by simp only [VSim])
theorem good_bool (hs : HSim w0 X h c) {b : Bool} {r : Result Value} (hr : r = .ok (.bool b) c.w) : Good w0 X h [] N c (.bool b) r := good_pure hs hr (by simp only [VSim])

theorem intBin_good (hs : HSim w0 X h c) {op : BinOp} {k : IntKind} {m n : Int} {p : PV} {t : TypeId} (hd : Does tm h (intBin op k m n) p) (h1 : op ≠ .shl) (h2 : op ≠ .shr) :
    Good w0 X h [] N c p ((binOp op t (.int k m) (.int k n)).run P c.w) := by
  cases op <;> simp only [intBin, does_ret, does_fail, does_bind, does_need, bne_iff_ne, ne_eq] at hd
  case quo =>
    obtain ⟨_, hn, rfl⟩ := hd
    exact good_int hs (by simp [binOp, Op.intDiv, hn])
  case rem =>
    obtain ⟨_, hn, rfl⟩ := hd
    exact good_int hs (by simp [binOp, Op.intDiv, hn])
  all_goals
    first
      | (exfalso; exact hd)
      | (subst hd; exact good_int hs (by simp only [binOp, ne_eq, not_true_eq_false, if_false, Op.intArith, Op.intBits, Op.intCmp]; rfl))
      | (subst hd; exact good_bool hs (by simp only [binOp, ne_eq, not_true_eq_false, if_false, Op.intArith, Op.intBits, Op.intCmp]; rfl))

theorem shiftR_good (hs : HSim w0 X h c) {op : BinOp} {k k' : IntKind} {m n : Int} {p : PV} {t : TypeId} (hd : Does tm h (shiftR op k m n) p) :
    Good w0 X h [] N c p ((binOp op t (.int k m) (.int k' n)).run P c.w) := by
  simp only [shiftR, does_bind, does_need, decide_eq_true_eq] at hd
  obtain ⟨_, hn, hd⟩ := hd
  have hn' : ¬ n < 0 := by omega
  cases op <;> simp only [does_ret, does_fail] at hd
  all_goals
    subst hd
    exact good_int hs (by simp [binOp, Op.shift, hn'])

theorem fltBin_good (hs : HSim w0 X h c) {op : BinOp} {k : FloatKind} {m n : Nat} {p : PV} {t : TypeId} (hd : Does tm h (fltBin op k (canon k m) (canon k n)) p) :
    Good w0 X h [] N c p ((binOp op t (.float k m) (.float k n)).run P c.w) := by
  cases op <;> simp only [fltBin, does_ret, does_fail] at hd
  case add => subst hd; exact good_flt hs (run_arith .add k m n _ c.w (.inl ⟨rfl, rfl⟩) t)
  case sub => subst hd; exact good_flt hs (run_arith .sub k m n _ c.w (.inr (.inl ⟨rfl, rfl⟩)) t)
  case mul => subst hd; exact good_flt hs (run_arith .mul k m n _ c.w (.inr (.inr (.inl ⟨rfl, rfl⟩))) t)
  case quo => subst hd; exact good_flt hs (run_arith .quo k m n _ c.w (.inr (.inr (.inr ⟨rfl, rfl⟩))) t)
  case eql => subst hd; exact good_bool hs (by simp [binOp, Op.floatCmp, feq, order_canon])
  case neq => subst hd; exact good_bool hs (by simp [binOp, Op.floatCmp, fne, order_canon])
  case lss => subst hd; exact good_bool hs (by simp [binOp, Op.floatCmp, Go.Proofs.Ytilfdpllleninaa.flt, order_canon])
  case leq => subst hd; exact good_bool hs (by simp [binOp, Op.floatCmp, fle, order_canon])
  case gtr => subst hd; exact good_bool hs (by simp [binOp, Op.floatCmp, fgt, order_canon])
  case geq => subst hd; exact good_bool hs (by simp [binOp, Op.floatCmp, fge, order_canon])

theorem strBin_good (hs : HSim w0 X h c) {op : BinOp} {x y : ByteArray} {p : PV} {t : TypeId} (hd : Does tm h (strBin op x.data.toList y.data.toList) p) :
    Good w0 X h [] N c p ((binOp op t (.string x) (.string y)).run P c.w) := by
  have e : ∀ z : ByteArray, z.toList = z.data.toList := fun z => ByteArray.toList_eq z
  cases op <;> simp only [strBin, does_ret, does_fail, does_bind, does_need, decide_eq_true_eq] at hd
  case add =>
    obtain ⟨_, hn, rfl⟩ := hd
    have hn' : ¬ (((x.size + y.size : Nat) : Int) > IntKind.i64.max) := by
      rw [IntKind.max_i64]
      have : x.size + y.size ≤ 9223372036854775807 := by simpa using hn
      omega
    refine good_pure (v := .string (x ++ y)) hs ?_ ?_
    · simp only [binOp, Op.stringOp, if_neg hn', Sem.run_pure]
    · simp [VSim]
  all_goals
    subst hd
    exact good_bool hs (by simp [binOp, Op.stringOp, e])

theorem nan_andNot (m : Nat) (hm : isNaN .f64 m = true) : ∃ n : Nat, IntKind.u64.wrap ((BitVec.ofInt IntKind.u64.bits (m : Int) &&& ~~~ BitVec.ofInt IntKind.u64.bits 9223372036854775808).toNat : Int) = (n : Int) ∧ isNaN .f64 n = true := by
  have e1 : (BitVec.ofInt IntKind.u64.bits (m : Int) &&& ~~~ BitVec.ofInt IntKind.u64.bits 9223372036854775808).toNat = m % 2 ^ 63 := by
    have e0 : ~~~ BitVec.ofInt IntKind.u64.bits 9223372036854775808 = BitVec.ofNat IntKind.u64.bits (2 ^ 63 - 1) := by decide
    rw [e0]
    have e2 : BitVec.ofInt IntKind.u64.bits (m : Int) = BitVec.ofNat IntKind.u64.bits m := BitVec.ofInt_natCast ..
    rw [e2, BitVec.toNat_and, BitVec.toNat_ofNat, BitVec.toNat_ofNat]
    have e3 : (2 ^ 63 - 1) % 2 ^ IntKind.u64.bits = 2 ^ 63 - 1 := by decide
    rw [e3, Nat.and_two_pow_sub_one_eq_mod]
    exact Nat.mod_mod_of_dvd m (by decide)
  rw [e1]
  refine ⟨m % 2 ^ 63, ?_, ?_⟩
  · have : m % 2 ^ 63 < 2 ^ 63 := Nat.mod_lt _ (by decide)
    show ((m % 2 ^ 63 : Nat) : Int) % 2 ^ 64 = _
    omega
  · rw [← hm]
    exact isNaN_mod .f64 _ _ (Nat.mod_mod m (2 ^ 63))

theorem run_eq_bool {t : TypeId} (hu : P.underlying t = some .bool) (a b : Bool) (w : World) : (Op.equal t (.bool a) (.bool b)).run P w = .ok (a == b) w := by
  show (Op.equalIn (9999 + 1) t (.bool a) (.bool b)).run P w = _
  generalize 9999 = n
  simp [Op.equalIn, run_underlying hu]

theorem binR_good (hs : HSim w0 X h c) {T : TT} (hT : TTOK P T) {op : BinOp} {p q r : PV} {x y : Value} {t : TypeId} (hp : VSim c p x) (hq : VSim c q y) (hd : Does tm h (binR T t op p q) r) (ox oy : Operand) :
    Good w0 X h [] N c r ((do eqGuard op t ox oy x y; binOp op t x y : Sem Value).run P c.w) := by
  replace hp := hp.unK
  replace hq := hq.unK
  unfold binR at hd
  generalize p.unK = p at hp hd
  generalize q.unK = q at hq hd
  split at hd
  · simp only [VSim] at hp hq
    subst hp hq
    rw [eqGuard_at_int]
    change Good w0 X h [] N c r ((binOp op t (.int _ _) (.int _ _)).run P c.w)
    split at hd
    · exact shiftR_good (t := t) hs hd
    · exact shiftR_good (t := t) hs hd
    · rename_i n1 n2
      rw [cond_eq_ite] at hd
      split at hd
      · rename_i hk
        have hk := of_decide_eq_true hk
        subst hk
        exact intBin_good (t := t) hs hd n1 n2
      · simp at hd
  · split at hd
    · rw [cond_eq_ite] at hd
      split at hd
      · rename_i n hn
        have hn := of_decide_eq_true hn
        simp only [does_ret] at hd
        subst hd
        simp only [VSim] at hp hq
        obtain ⟨m, rfl, hm⟩ := hp
        subst hq
        rw [eqGuard_at_int]
        subst hn
        show Good w0 X h [] N c .nanb ((binOp .andNot t (.int .u64 (m : Int)) (.int .u64 9223372036854775808)).run P c.w)
        obtain ⟨k, hk, hk2⟩ := nan_andNot m hm
        refine good_pure hs (v := .int .u64 (k : Int)) ?_ ?_
        · simp only [binOp, ne_eq, not_true_eq_false, if_false, Op.intBits]
          rw [← hk]
          rfl
        · simp only [VSim]; exact ⟨k, rfl, hk2⟩
      · simp at hd
    · simp at hd
  · rename_i k m k' n
    rw [cond_eq_ite] at hd
    split at hd
    · rename_i hk
      have hk := of_decide_eq_true hk
      subst hk
      simp only [VSim] at hp hq
      obtain ⟨b1, rfl, rfl⟩ := hp
      obtain ⟨b2, rfl, rfl⟩ := hq
      rw [eqGuard_at_float]
      exact fltBin_good (t := t) hs hd
    · simp at hd
  · simp only [VSim] at hp hq
    obtain ⟨x, rfl, rfl⟩ := hp
    obtain ⟨y, rfl, rfl⟩ := hq
    rw [eqGuard_at_string]
    exact strBin_good (t := t) hs hd
  · simp only [does_bind, does_ti] at hd
    obtain ⟨i, hi, hd⟩ := hd
    have hu := (hT t i hi).d
    simp only [VSim] at hp hq
    subst hp hq
    rw [eqGuard_at_bool]
    split at hd
    · rename_i e
      rw [e] at hu
      have hu : P.underlying t = some .bool := hu
      simp only [does_ret] at hd
      subst hd
      refine good_bool hs ?_
      show ((do pure (.bool (← Op.equal t (.bool _) (.bool _))) : Sem Value)).run P c.w = _
      simp only [Sem.run_bind, run_eq_bool hu, Result.andThen_ok, Sem.run_pure]
    · rename_i e
      rw [e] at hu
      have hu : P.underlying t = some .bool := hu
      simp only [does_ret] at hd
      subst hd
      refine good_bool hs ?_
      show ((do pure (.bool (!(← Op.equal t (.bool _) (.bool _)))) : Sem Value)).run P c.w = _
      simp only [Sem.run_bind, run_eq_bool hu, Result.andThen_ok, Sem.run_pure]
    · simp at hd
  · simp at hd

theorem unR_good (hs : HSim w0 X h c) {op : UnOp} {p r : PV} {x : Value} (hp : VSim c p x) (hd : Does tm h (unR op p) r) : Good w0 X h [] N c r ((Op.unary op x).run P c.w) := by
  unfold unR at hd
  split at hd <;> simp only [does_ret, does_fail] at hd <;> subst hd <;> simp only [VSim] at hp
  · subst hp; exact good_bool hs rfl
  · subst hp; exact good_pure hs rfl (by simp only [VSim])
  · subst hp; exact good_int hs rfl
  · obtain ⟨b, rfl, rfl⟩ := hp
    exact good_pure hs rfl (by simp only [VSim]; exact ⟨_, rfl, fneg_canon _ b⟩)

set_option maxHeartbeats 1000000 in
theorem convR_good (hs : HSim w0 X h c) {s d : TypeId} {i j : TI} (hS : TIOK P s i) (hD : TIOK P d j) {p r : PV} {x : Value} (hp : VSim c p x) (hd : Does tm h (convR i.d j.d p) r) : Good w0 X h [] N c r ((convert s d x).run P c.w) := by
  obtain ⟨us, hus⟩ := hS.d.some
  have hdd := hD.d
  unfold convR at hd
  split at hd
  · rename_i k kk n e
    rw [e] at hdd
    have hdd : P.underlying d = some (.int k) := hdd
    simp only [does_ret] at hd
    subst hd
    simp only [VSim] at hp
    subst hp
    exact good_int hs (by cases us <;> simp [convert, run_underlying hus, run_underlying hdd, Conv.intToInt])
  · rename_i k kk n e
    rw [e] at hdd
    have hdd : P.underlying d = some (.float k) := hdd
    simp only [does_ret] at hd
    subst hd
    simp only [VSim] at hp
    subst hp
    exact good_pure hs (v := .float k (k.nearest n)) (by cases us <;> simp [convert, run_underlying hus, run_underlying hdd, Conv.intToFloat]) (by simp only [VSim]; exact ⟨_, rfl, rfl⟩)
  · rename_i k kk x e
    rw [e] at hdd
    have hdd : P.underlying d = some (.int k) := hdd
    simp only [does_bind, does_need, does_ret] at hd
    obtain ⟨_, hok, rfl⟩ := hd
    simp only [VSim] at hp
    obtain ⟨b, rfl, rfl⟩ := hp
    have hr := run_ftoInt (P := P) kk b k hok c.w
    exact good_int hs (by cases us <;> simp [convert, run_underlying hus, run_underlying hdd, hr])
  · rename_i k kk x e
    rw [e] at hdd
    have hdd : P.underlying d = some (.float k) := hdd
    simp only [VSim] at hp
    obtain ⟨b, rfl, rfl⟩ := hp
    rw [cond_eq_ite] at hd
    split at hd
    · rename_i hk
      have hk := of_decide_eq_true hk
      subst hk
      simp only [does_ret] at hd
      subst hd
      exact good_pure hs (v := .float kk b) (by cases us <;> simp [convert, run_underlying hus, run_underlying hdd, Conv.floatToFloat]) (by simp only [VSim]; exact ⟨_, rfl, rfl⟩)
    · rename_i hk
      simp only [does_bind, does_need, does_ret] at hd
      obtain ⟨_, hok, rfl⟩ := hd
      have hr := run_fconv (P := P) kk k b (fun e => hk (decide_eq_true e)) hok c.w
      have hx : (convert s d (.float kk b)).run P c.w = (Conv.floatToFloat kk b k).run P c.w := by cases us <;> simp [convert, run_underlying hus, run_underlying hdd]
      rw [hx]
      exact good_flt hs hr
  · rename_i k kk x y e
    rw [e] at hdd
    have hdd : P.underlying d = some (.complex k) := hdd
    simp only [VSim] at hp
    obtain ⟨b1, b2, rfl, rfl, rfl⟩ := hp
    have hx : (convert s d (.complex kk b1 b2)).run P c.w = (Conv.complexToComplex kk b1 b2 k).run P c.w := by cases us <;> simp [convert, run_underlying hus, run_underlying hdd]
    rw [cond_eq_ite] at hd
    split at hd
    · rename_i hk
      have hk := of_decide_eq_true hk
      subst hk
      simp only [does_ret] at hd
      subst hd
      exact good_pure hs (v := .complex kk b1 b2) (by rw [hx]; simp [Conv.complexToComplex, Conv.floatToFloat]) (by simp only [VSim]; exact ⟨_, _, rfl, rfl, rfl⟩)
    · rename_i hk
      simp only [does_bind, does_need, does_ret] at hd
      obtain ⟨_, h1, _, h2, rfl⟩ := hd
      obtain ⟨c1, w1, r1, q1, e1⟩ := run_fconv (P := P) kk k b1 (fun e => hk (decide_eq_true e)) h1 c.w
      obtain ⟨c2, w2, r2, q2, e2⟩ := run_fconv (P := P) kk k b2 (fun e => hk (decide_eq_true e)) h2 w1
      obtain ⟨g1, g2⟩ := hs.same e1
      obtain ⟨g3, g4⟩ := g1.same e2
      exact ⟨.complex k c1 c2, { c with w := w2 }, by rw [hx]; simp [Conv.complexToComplex, r1, r2], (g2 _).trans (g4 _), by simp only [VSim]; exact ⟨_, _, rfl, q1, q2⟩, g3⟩
  · rename_i e
    rw [e] at hdd
    have hdd : P.underlying d = some .string := hdd
    simp only [does_ret] at hd
    subst hd
    simp only [VSim] at hp
    obtain ⟨b, rfl, rfl⟩ := hp
    exact good_pure hs (v := .string b) (by cases us <;> simp [convert, run_underlying hus, run_underlying hdd]) (by simp only [VSim]; exact ⟨_, rfl, rfl⟩)
  · simp at hd

theorem nilCheck_good (hs : HSim w0 X h c) {o : Oper} {a : Act} {ox : Operand} (ho : o.op = .nilCheck ox) {p : PV} (hv : VSim c p (a.eval ox)) (hp : ∃ b off, a.eval ox = .pointer (some ⟨b, off, none⟩)) : OpGood P o a w0 X h [] N c p := by
  intro K' Q hk
  obtain ⟨b, off, he⟩ := hp
  unfold Oper.wp execOp
  simp only [ho, he, Sem.run_pure, Result.andThen_ok, Sem.run_bind, Oper.upon_value]
  rw [he] at hv
  exact hk _ c (Ext.refl N c) hv hs

theorem lenR_good (hs : HSim w0 X h c) {t : TypeId} {i : TI} (hT : TIOK P t i) {p r : PV} {x : Value} {ty : TypeId} (hp : VSim c p x) (hd : Does tm h (lenR i.d p) r) : Good w0 X h [] N c r ((Builtin.len_ #[t] ty #[x]).run P c.w) := by
  have hu := hT.d
  unfold lenR at hd
  split at hd
  · rename_i s e
    rw [e] at hu
    have hu : P.underlying t = some .string := hu
    simp only [does_ret] at hd
    subst hd
    simp only [VSim] at hp
    obtain ⟨b, rfl, rfl⟩ := hp
    exact good_int hs (by simp [Builtin.len_, run_underlying hu, goInt])
  · rename_i e
    rw [e] at hu
    obtain ⟨e', hu⟩ : ∃ e', P.underlying t = some (.slice e') := ⟨_, hu⟩
    simp only [does_ret] at hd
    subst hd
    simp only [VSim] at hp
    obtain ⟨_, a, m, rfl, _⟩ := hp
    exact good_int hs (by simp [Builtin.len_, run_underlying hu, goInt])
  · rename_i e
    rw [e] at hu
    obtain ⟨e', hu⟩ : ∃ e', P.underlying t = some (.slice e') := ⟨_, hu⟩
    simp only [does_ret] at hd
    subst hd
    simp only [VSim] at hp
    subst hp
    exact good_int hs (by simp [Builtin.len_, run_underlying hu, goInt])
  · rename_i e
    rw [e] at hu
    obtain ⟨e', hu⟩ : ∃ e', P.underlying t = some (.slice e') := ⟨_, hu⟩
    simp only [does_ret] at hd
    subst hd
    simp only [VSim] at hp
    obtain ⟨_, a, m, rfl, _⟩ := hp
    exact good_int hs (by simp [Builtin.len_, run_underlying hu, goInt])
  · rename_i e
    rw [e] at hu
    obtain ⟨e', hu⟩ : ∃ e', P.underlying t = some (.slice e') := ⟨_, hu⟩
    simp only [does_ret] at hd
    subst hd
    simp only [VSim] at hp
    obtain ⟨_, b, _, rfl⟩ := hp
    exact good_int hs (by simp [Builtin.len_, run_underlying hu, goInt])
  · rename_i e
    rw [e] at hu
    obtain ⟨e', hu⟩ : ∃ e', P.underlying t = some (.slice e') := ⟨_, hu⟩
    simp only [does_bind, does_blk] at hd
    obtain ⟨b, rfl, hd⟩ := hd
    split at hd
    · rename_i xs hb
      simp only [does_ret] at hd
      subst hd
      simp only [VSim] at hp
      obtain ⟨_, rfl, _⟩ := hp
      obtain ⟨_, vs, ho, _⟩ := hs.blk _ _ hb
      rcases ho.2 with ⟨hv, hn⟩ | ⟨g, cap, cur, fz, hv, _⟩
      · rw [hv, hn]; exact good_int hs (by simp [Builtin.len_, run_underlying hu, goInt])
      · rw [hv]; exact good_int hs (by simp [Builtin.len_, run_underlying hu, goInt])
    · simp at hd
  · rename_i e
    rw [e] at hu
    obtain ⟨n', e', hn, hu⟩ : ∃ n' e', n' = _ ∧ P.underlying t = some (.array n' e') := ⟨_, _, rfl, hu⟩
    rw [← hn] at hd
    simp only [does_ret] at hd
    subst hd
    exact good_int hs (by cases x <;> simp [Builtin.len_, run_underlying hu, goInt])
  · rename_i e
    rw [e] at hu
    obtain ⟨e', hu⟩ : ∃ e', P.underlying t = some (.slice e') := ⟨_, hu⟩
    simp only [does_ret] at hd
    subst hd
    simp only [VSim] at hp
    obtain ⟨b, vs, rfl, _⟩ := hp
    exact good_int hs (by simp [Builtin.len_, run_underlying hu, goInt])
  · simp at hd

end
end Go.Proofs.Ytilfdpllleninaa
