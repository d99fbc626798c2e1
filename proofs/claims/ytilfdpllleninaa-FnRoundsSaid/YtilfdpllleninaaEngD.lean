/- The engine, part D: each operation does what the evaluator says (all but calls). -/
import Derived.Test.YtilfdpllleninaaEngC
import Derived.Laws.Tables
import Derived.Laws.OwnMore
import Derived.Laws.Slices
namespace Go.Proofs.Ytilfdpllleninaa
set_option linter.unusedVariables false
set_option linter.unusedSimpArgs false

/-! ## Type rows -/

def TDOK (P : Program) (t : TypeId) : TD → Prop
  | .int k => P.underlying t = some (.int k)
  | .flt k => P.underlying t = some (.float k)
  | .cplx k => P.underlying t = some (.complex k)
  | .bool => P.underlying t = some .bool
  | .str => P.underlying t = some .string
  | .struct fs => ∃ fields, P.underlying t = some (.struct fields) ∧ fields.toList.map (fun f => (f.offset, f.type)) = fs
  | .arr n e => P.underlying t = some (.array n e)
  | .slc e => P.underlying t = some (.slice e)
  | .ptr e => P.underlying t = some (.pointer e)
  | .other => ∃ d, P.underlying t = some d ∧ (∀ f, d ≠ .struct f) ∧ (∀ n e, d ≠ .array n e)

def ZSim (p : PV) (v : Value) : Prop := ∀ c, VSim c p v

structure TIOK (P : Program) (t : TypeId) (i : TI) : Prop where
  d : TDOK P t i.d
  inf : ∃ info z, P.info? t = some info ∧ info.size = i.sz ∧ info.bytes = i.bytes ∧ info.zero = some z ∧ All2 ZSim i.zero z.cells.toList

def TTOK (P : Program) (T : TT) : Prop := ∀ t i, T t = some i → TIOK P t i

theorem TDOK.some {P : Program} {t : TypeId} {d : TD} (h : TDOK P t d) : ∃ u, P.underlying t = some u := by
  cases d <;> first
    | exact ⟨_, h⟩
    | (obtain ⟨u, hu, _⟩ := h; exact ⟨_, hu⟩)

theorem TDOK.isAgg {P : Program} {t : TypeId} {d : TD} (h : TDOK P t d) (w : World) : (isAgg t).run P w = .ok d.isAgg w := by
  cases d with
  | struct fs => obtain ⟨f, hu, _⟩ := h; simp [Go.isAgg, run_underlying hu, TD.isAgg]
  | other =>
    obtain ⟨u, hu, h1, h2⟩ := h
    cases u <;> simp_all [Go.isAgg, run_underlying hu, TD.isAgg]
  | int k => have h : P.underlying t = _ := h; simp [Go.isAgg, run_underlying h, TD.isAgg]
  | flt k => have h : P.underlying t = _ := h; simp [Go.isAgg, run_underlying h, TD.isAgg]
  | cplx k => have h : P.underlying t = _ := h; simp [Go.isAgg, run_underlying h, TD.isAgg]
  | bool => have h : P.underlying t = _ := h; simp [Go.isAgg, run_underlying h, TD.isAgg]
  | str => have h : P.underlying t = _ := h; simp [Go.isAgg, run_underlying h, TD.isAgg]
  | arr n e => have h : P.underlying t = _ := h; simp [Go.isAgg, run_underlying h, TD.isAgg]
  | slc e => have h : P.underlying t = _ := h; simp [Go.isAgg, run_underlying h, TD.isAgg]
  | ptr e => have h : P.underlying t = _ := h; simp [Go.isAgg, run_underlying h, TD.isAgg]

theorem TIOK.sizeOf {P : Program} {t : TypeId} {i : TI} (h : TIOK P t i) (w : World) : (sizeOf t).run P w = .ok i.sz w := by
  obtain ⟨info, z, hi, hs, _⟩ := h.inf
  simp [Go.sizeOf, typeInfo, hi, hs]

theorem TIOK.zeroValue {P : Program} {t : TypeId} {i : TI} (h : TIOK P t i) (w : World) : ∃ z, (zeroValue t).run P w = .ok z w ∧ All2 ZSim i.zero z.cells.toList := by
  obtain ⟨info, z, hi, _, _, hz, ha⟩ := h.inf
  exact ⟨z, by simp [Go.zeroValue, typeInfo, hi, hz], ha⟩

/-! ## What is shown of an operation -/

section
variable {P : Program} {w0 : World} {X : Nat → Prop} {h : Nat → Option Blk} {N : Nat → Prop} {c : Cx}

def Good (w0 : World) (X : Nat → Prop) (h : Nat → Option Blk) (wr : List (Nat × Option Blk)) (N : Nat → Prop) (c : Cx) (p : PV) (r : Result Value) : Prop :=
  ∃ v c', r = .ok v c'.w ∧ Ext N c c' ∧ VSim c' p v ∧ HSim w0 X (updH h wr) c'

def OpGood (P : Program) (o : Oper) (a : Act) (w0 : World) (X : Nat → Prop) (h : Nat → Option Blk) (wr : List (Nat × Option Blk)) (N : Nat → Prop) (c : Cx) (p : PV) : Prop :=
  ∀ (K' : Act → World → Prop) (Q : Exit → Act → World → Prop), (∀ v c', Ext N c c' → VSim c' p v → HSim w0 X (updH h wr) c' → K' (a.put o.dst v) c'.w) → o.wp P a c.w K' Q

theorem good_pure {p : PV} {v : Value} {r : Result Value} (hs : HSim w0 X h c) (hr : r = .ok v c.w) (hv : VSim c p v) : Good w0 X h [] N c p r :=
  ⟨v, c, hr, Ext.refl N c, hv, hs⟩

theorem good_flt {k : FloatKind} {x : Nat} {r : Result Value} (hs : HSim w0 X h c) (hr : FltRes k x c.w r) : Good w0 X h [] N c (.flt k x) r := by
  obtain ⟨b, w', hr, hb, hw⟩ := hr
  obtain ⟨h1, h2⟩ := hs.same hw
  exact ⟨_, { c with w := w' }, hr, h2 N, ⟨b, rfl, hb⟩, h1⟩

theorem opGood_of {o : Oper} {a : Act} {wr : List (Nat × Option Blk)} {p : PV} {s : Sem Value} (hx : execOp a.eval o = (do pure (Next.value (← s)))) (hg : Good w0 X h wr N c p (s.run P c.w)) : OpGood P o a w0 X h wr N c p := by
  intro K' Q hk
  obtain ⟨v, c', hr, he, hv, hh⟩ := hg
  unfold Oper.wp
  rw [hx]
  simp only [Sem.run_bind, hr, Result.andThen_ok, Sem.run_pure, Oper.upon_value]
  exact hk v c' he hv hh

theorem opGood_unit {o : Oper} {a : Act} {wr : List (Nat × Option Blk)} {s : Sem Unit} (hx : execOp a.eval o = (do s; pure Next.skip)) {c' : Cx} (hr : s.run P c.w = .ok () c'.w) (he : Ext N c c') (hh : HSim w0 X (updH h wr) c') :
    OpGood P o a w0 X h wr N c .junk := by
  intro K' Q hk
  unfold Oper.wp
  rw [hx]
  simp only [Sem.run_bind, hr, Result.andThen_ok, Sem.run_pure, Oper.upon_skip]
  exact hk undef c' he trivial hh

/-! ## Operands -/

theorem ofConst0_sim {v : Value} {p : PV} (hp : ofConst0 v = some p) : VSim c p v := by
  unfold ofConst0 at hp
  split at hp <;> cases hp <;> simp only [VSim]
  · exact ⟨_, rfl, rfl⟩
  · exact ⟨_, _, rfl, rfl, rfl⟩
  · exact ⟨_, rfl, rfl⟩

theorem ofConsts0_sim : ∀ {vs : List Value} {ps : List PV}, ofConsts0 vs = some ps → VSims c ps vs
  | [], ps, hp => by simp only [ofConsts0, Option.some.injEq] at hp; subst hp; simp [VSims]
  | v :: vs, ps, hp => by
    simp only [ofConsts0] at hp
    split at hp
    · rename_i p qs h1 h2
      simp only [Option.some.injEq] at hp; subst hp
      simp only [VSims]
      exact ⟨(ofConst0_sim h1).unK, ofConsts0_sim h2⟩
    · cases hp

theorem ofConst_sim {v : Value} {p : PV} (hp : ofConst v = some p) : VSim c p v := by
  unfold ofConst at hp
  split at hp
  · rename_i cs
    cases hc : ofConsts0 cs.toList with
    | none => rw [hc] at hp; cases hp
    | some ps => rw [hc] at hp; cases hp; simp only [VSim]; exact ⟨cs, rfl, ofConsts0_sim hc⟩
  · exact ofConst0_sim hp

variable {tm : Nat → PV} {a : Act}

theorem rop_sim (ht : ∀ t, VSim c (tm t) (a.tmps.getD t undef)) {x : Operand} {p : PV} (hd : Does tm h (rop x) p) : VSim c p (a.eval x) := by
  cases x with
  | tmp t => simp only [rop, does_tmp] at hd; subst hd; exact ht t
  | const v => simp only [rop, does_lift] at hd; exact ofConst_sim hd
  | global g => simp [rop] at hd
  | func f => simp only [rop, does_ret] at hd; subst hd; simp only [VSim, Act.eval]; exact ⟨#[], #[], rfl, by simp [VSims], by simp [VSims]⟩

theorem rops_sim (ht : ∀ t, VSim c (tm t) (a.tmps.getD t undef)) : ∀ {xs : List Operand} {ps : List PV}, Does tm h (rops xs) ps → VSims c ps (xs.map a.eval)
  | [], ps, hd => by simp only [rops, does_ret] at hd; subst hd; simp [VSims]
  | x :: xs, ps, hd => by
    simp only [rops, does_bind, does_ret] at hd
    obtain ⟨p, h1, qs, h2, rfl⟩ := hd
    simp only [List.map_cons, VSims]
    exact ⟨rop_sim ht h1, rops_sim ht h2⟩

def Parts (c : Cx) : List (Nat × PV) → List (Nat × Value) → Prop := All2 fun p v => p.1 = v.1 ∧ VSim c p.2 v.2

theorem rops2_sim (ht : ∀ t, VSim c (tm t) (a.tmps.getD t undef)) : ∀ {xs : List (Nat × Operand)} {ps : List (Nat × PV)}, Does tm h (rops2 xs) ps → Parts c ps (xs.map fun (i, x) => (i, a.eval x))
  | [], ps, hd => by simp only [rops2, does_ret] at hd; subst hd; simp [Parts, All2]
  | (i, x) :: xs, ps, hd => by
    simp only [rops2, does_bind, does_ret] at hd
    obtain ⟨p, h1, qs, h2, rfl⟩ := hd
    exact ⟨⟨rfl, rop_sim ht h1⟩, rops2_sim ht h2⟩

/-! ## Cells -/

theorem cellsOf_sim {p : PV} {v : Value} {ps : List PV} (hv : VSim c p v) (hp : p.cellsOf = some ps) : VSims c ps v.cells.toList := by
  cases p <;> simp only [PV.cellsOf, Option.some.injEq, reduceCtorEq] at hp
  case agg cs => subst hp; simp only [VSim] at hv; obtain ⟨vs, rfl, hs⟩ := hv; simpa [Value.cells] using hs
  case boolK b => subst hp; simp only [VSim] at hv; subst hv; simp [Value.cells, VSims, VSim]
  all_goals
    subst hp
    have hv' := hv
    simp only [VSim] at hv'
    have hc : v.cells = #[v] := by
      cases v <;> first
        | rfl
        | (exfalso; revert hv'; simp; done)
        | (exfalso
           obtain ⟨_, hv'⟩ := hv'
           simp at hv')
        | (exfalso
           obtain ⟨_, _, _, _, hv'⟩ := hv'
           simp at hv')
    rw [hc]
    simpa only [VSims, and_true] using hv

theorem oneCells_sim : ∀ {ps : List PV} {vs : List Value}, VSims c ps vs → oneCells ps = true → ∀ v ∈ vs, v.oneCell' = true
  | [], [], _, _, v, hm => by cases hm
  | p :: ps, u :: vs, hs, ho, v, hm => by
    simp only [VSims] at hs
    have hp : oneCells ps = true := by cases p <;> simp_all [oneCells]
    cases hm with
    | head =>
      have h1 := hs.1
      cases p <;> simp only [oneCells, Bool.false_eq_true] at ho <;> simp only [VSim] at h1
      all_goals first
        | (rw [h1]; rfl)
        | (obtain ⟨_, h1, _⟩ := h1; rw [h1]; rfl)
        | (obtain ⟨_, _, h1, _⟩ := h1; rw [h1]; rfl)
        | (obtain ⟨_, _, _, h1⟩ := h1; rw [h1]; rfl)
        | (obtain ⟨_, _, _, _, _, h1⟩ := h1; rw [h1]; rfl)
        | (obtain ⟨_, _, _, h1, _⟩ := h1; rw [h1]; rfl)
        | (obtain ⟨_, _, _, _, h1⟩ := h1; rw [h1]; rfl)
    | tail _ hm => exact oneCells_sim hs.2 hp v hm

theorem cellsAt_heap {w : World} {b : Nat} {arr : Array Value} {e : TypeId} {fr : Nat × Nat} (hb : w.heap[b]? = some (.cells arr e fr)) : CellsAt w b 0 arr.toList := fun j u hu => by
  simp only [Nat.zero_add, World.cell?, hb, Option.isSome_none, Bool.false_eq_true, if_false]
  simpa using hu

theorem CellsAt.part {w : World} {b off : Nat} {vs : List Value} (hc : CellsAt w b off vs) (j n : Nat) : CellsAt w b (off + j) ((vs.drop j).take n) := fun i u hu => by
  rw [List.getElem?_take] at hu
  split at hu
  · rw [List.getElem?_drop] at hu
    have := hc _ _ hu
    rwa [← Nat.add_assoc] at this
  · cases hu

/-- A variable read out of memory that is known. -/
theorem run_loadVar {t : TypeId} {i : TI} (hT : TIOK P t i) {cs : List PV} {vs : List Value} {b off : Nat} (hc : CellsAt c.w b off vs) (hs : VSims c cs vs) {j : Nat} {p : PV} (hp : part i cs j = some p) :
    ∃ v, (loadVar t ⟨b, off + j, none⟩).run P c.w = .ok v c.w ∧ VSim c p v := by
  unfold part at hp
  rw [cond_eq_ite] at hp
  have hs' := (VSims_iff c cs vs).1 hs
  split at hp
  · rename_i hag
    rw [cond_eq_ite] at hp
    split at hp
    · rename_i hle
      cases hp
      have hle : j + i.sz ≤ cs.length := Nat.le_of_ble_eq_true hle
      have hlen := hs'.length
      have hl : ((vs.drop j).take i.sz).length = i.sz := by rw [List.length_take, List.length_drop]; omega
      have hload := run_loadCells_list (P := P) c.w ⟨b, off + j, none⟩ ((vs.drop j).take i.sz) (fun k v hk => by rw [Addr.add_lit]; exact hc.part j i.sz k v hk)
      rw [hl] at hload
      refine ⟨.agg ((vs.drop j).take i.sz).toArray, ?_, ?_⟩
      · simp [loadVar, hT.d.isAgg, hag, hT.sizeOf, hload]
      · simp only [VSim]
        exact ⟨_, rfl, by simpa using (VSims_iff c _ _).2 ((hs'.drop j).take i.sz)⟩
    · cases hp
  · rename_i hag
    obtain ⟨v, hv, hsim⟩ := hs'.get j hp
    refine ⟨v, ?_, hsim⟩
    have hcell := hc j v hv
    simp [loadVar, hT.d.isAgg, hag, hcell]

theorem flat_length (u : UC) : ∀ (xs : List u.T), (flat u xs).length = xs.length * u.size
  | [] => by simp [flat]
  | x :: xs => by simp only [flat, List.length_append, UC.enc_length, flat_length u xs, List.length_cons, Nat.add_mul, Nat.one_mul]; omega

theorem flat_get (u : UC) : ∀ (xs : List u.T) (n : Nat), n < xs.length → ((flat u xs).drop (n * u.size)).take u.size = u.enc (xs.getD n default)
  | [], n, hn => by simp at hn
  | x :: xs, 0, _ => by
    simp only [flat, Nat.zero_mul, List.drop_zero, List.getD_cons_zero]
    rw [← UC.enc_length u x, List.take_left]
  | x :: xs, n + 1, hn => by
    simp only [flat, List.getD_cons_succ]
    rw [show (n + 1) * u.size = (u.enc x).length + n * u.size from by rw [UC.enc_length, Nat.add_mul]; omega, ← List.drop_drop, List.drop_left]
    exact flat_get u xs n (by simpa using hn)

theorem flat_append (u : UC) : ∀ (xs ys : List u.T), flat u (xs ++ ys) = flat u xs ++ flat u ys
  | [], ys => rfl
  | x :: xs, ys => by simp [flat, flat_append u xs ys]

theorem flat_drop (u : UC) : ∀ (n : Nat) (xs : List u.T), flat u (xs.drop n) = (flat u xs).drop (n * u.size)
  | 0, xs => by simp
  | n + 1, [] => by simp [flat]
  | n + 1, x :: xs => by
    simp only [List.drop_succ_cons, flat]
    rw [flat_drop u n xs, show (n + 1) * u.size = (u.enc x).length + n * u.size from by rw [UC.enc_length, Nat.add_mul]; omega, ← List.drop_drop, List.drop_left]

theorem flat_take (u : UC) : ∀ (n : Nat) (xs : List u.T), flat u (xs.take n) = (flat u xs).take (n * u.size)
  | 0, xs => by simp [flat]
  | n + 1, [] => by simp [flat]
  | n + 1, x :: xs => by
    simp only [List.take_succ_cons, flat]
    rw [flat_take u n xs, show (n + 1) * u.size = (u.enc x).length + n * u.size from by rw [UC.enc_length, Nat.add_mul]; omega, List.take_length_add_append]

/-- What an owned slice's block holds. -/
theorem ownsRow_cells {w : World} {e : TypeId} {s n : Nat} {v : Value} {vs : List Value} (ho : OwnsG w e s v n vs) {b : Nat} (hb : blkOf v = some b) :
    ∃ cap cur, v = .slice (some ⟨b, 0, none⟩) n cap ∧ (∃ fz, w.heap[b]? = some (.cells cur e fz) ∧ FzOK fz cur.size) ∧ n ≤ cap ∧ cur.size = cap * s ∧ cur.toList.take (n * s) = vs ∧ CellsAt w b 0 vs := by
  rcases ho.2 with ⟨hv, _⟩ | ⟨g, cap, cur, fz, hv, hg, hfz, hn, _, hc, ht⟩
  · rw [hv] at hb; simp [blkOf] at hb
  · rw [hv] at hb
    simp only [blkOf, Option.some.injEq] at hb
    subst hb
    refine ⟨cap, cur, hv, ⟨fz, hg, hfz⟩, hn, hc, ht, fun j u hu => cellsAt_heap hg j u ?_⟩
    rw [← ht, List.getElem?_take] at hu
    split at hu
    · exact hu
    · cases hu

theorem loadR_good {t : TypeId} {i : TI} (hT : TIOK P t i) (hs : HSim w0 X h c) {q p : PV} {x : Value} (hq : VSim c q x) (hd : Does tm h (loadR i q) p) : Good w0 X h [] N c p ((Instr.loadAt t x).run P c.w) := by
  unfold loadR at hd
  split at hd
  · rename_i id j
    simp only [does_bind, does_blk] at hd
    obtain ⟨b, rfl, hd⟩ := hd
    split at hd
    · rename_i cs hb
      rw [does_lift] at hd
      obtain ⟨_, b, arr, e, hf, hheap, hsim⟩ := hs.blk id _ hb
      simp only [VSim] at hq
      obtain ⟨_, b', hf', rfl⟩ := hq
      rw [hf] at hf'
      cases hf'
      obtain ⟨v, hr, hv⟩ := run_loadVar hT (cellsAt_heap hheap) hsim hd
      rw [Nat.zero_add] at hr
      exact good_pure hs (by simp [Instr.loadAt, Instr.sureAddr, hr]) hv
    · simp at hd
  · rename_i id sz n j
    simp only [does_bind, does_blk] at hd
    obtain ⟨b, rfl, hd⟩ := hd
    split at hd
    · rename_i e u xs hb
      simp only [does_bind, does_need, decide_eq_true_eq] at hd
      obtain ⟨_, hn, hd⟩ := hd
      rw [cond_eq_ite] at hd
      split at hd
      · rename_i hsz
        rw [does_lift] at hd
        have hsz := eq_of_beq hsz
        subst hsz
        obtain ⟨_, vs, ho, hsim⟩ := hs.blk id _ hb
        simp only [VSim] at hq
        obtain ⟨_, b', l, m, hf', rfl⟩ := hq
        obtain ⟨cap, cur, hv, _, _, _, _, hc⟩ := ownsRow_cells ho (by rw [hf']; rfl)
        have hs' : All2 SSim (u.enc (xs.getD n default)) ((vs.drop (n * u.size)).take u.size) := by
          rw [← flat_get u xs n hn]
          exact (hsim.drop _).take _
        obtain ⟨v, hr, hv⟩ := run_loadVar hT (hc.part (n * u.size) u.size) (VSims.of_S hs') hd
        rw [Nat.zero_add] at hr
        exact good_pure hs (by simp [Instr.loadAt, Instr.sureAddr, hr]) hv
      · simp at hd
    · simp at hd
  · rename_i cs j
    rw [does_lift] at hd
    simp only [VSim] at hq
    obtain ⟨b, off, vs, rfl, _, hc, hsim⟩ := hq
    obtain ⟨v, hr, hv⟩ := run_loadVar hT hc hsim hd
    exact good_pure hs (by simp [Instr.loadAt, Instr.sureAddr, hr]) hv
  · simp at hd

theorem moveR_sim {q p : PV} {x : Value} {n : Nat} (hq : VSim c q x) (hm : moveR q n = some p) : ∃ b o, x = .pointer (some ⟨b, o, none⟩) ∧ VSim c p (.pointer (some ⟨b, o + n, none⟩)) := by
  unfold moveR at hm
  split at hm <;> cases hm <;> simp only [VSim] at hq ⊢
  · obtain ⟨hk, b, hf, rfl⟩ := hq
    exact ⟨b, _, rfl, hk, b, hf, rfl⟩
  · obtain ⟨hk, b, l, m, hf, rfl⟩ := hq
    exact ⟨b, _, rfl, hk, b, l, m, hf, by rw [Nat.add_assoc]⟩
  · obtain ⟨b, off, vs, rfl, hp, hc, hs⟩ := hq
    exact ⟨b, _, rfl, b, off, vs, by rw [Nat.add_assoc], hp, hc, hs⟩

theorem field_at {fields : Array Field} {fs : List (Nat × TypeId)} (hf : fields.toList.map (fun f => (f.offset, f.type)) = fs) {k o : Nat} {ft : TypeId} (hk : lget fs k = some (o, ft)) :
    ∃ f, fields[k]? = some f ∧ f.offset = o ∧ f.type = ft := by
  subst hf
  have key : ∀ (l : List Field) (k : Nat), lget (l.map fun f => (f.offset, f.type)) k = some (o, ft) → ∃ f, l[k]? = some f ∧ f.offset = o ∧ f.type = ft := by
    intro l
    induction l with
    | nil => intro k hk; simp [lget] at hk
    | cons x l ih =>
      intro k hk
      cases k with
      | zero => simp only [List.map_cons, lget, Option.some.injEq, Prod.mk.injEq] at hk; exact ⟨x, rfl, hk.1, hk.2⟩
      | succ k => simp only [List.map_cons, lget] at hk; obtain ⟨f, h1, h2⟩ := ih k hk; exact ⟨f, by simpa using h1, h2⟩
  obtain ⟨f, h1, h2⟩ := key fields.toList k hk
  exact ⟨f, by simpa using h1, h2⟩

theorem fieldAddr_good {t ft : TypeId} {i j : TI} (hT : TIOK P t i) (hF : TIOK P ft j) (hs : HSim w0 X h c) {fs : List (Nat × TypeId)} (hfs : i.d = .struct fs) {k o : Nat} (hk : lget fs k = some (o, ft)) (hj : (j.sz == 0) = false)
    {q p : PV} {x : Value} (hq : VSim c q x) (hm : moveR q o = some p) : Good w0 X h [] N c p ((Instr.fieldAt t x k).run P c.w) := by
  obtain ⟨b, o', rfl, hv⟩ := moveR_sim hq hm
  have hd := hT.d
  rw [hfs] at hd
  obtain ⟨fields, hu, hmap⟩ := hd
  obtain ⟨f, hf, ho, hft⟩ := field_at hmap hk
  have hj' : j.sz ≠ 0 := by simpa using hj
  refine good_pure hs ?_ hv
  subst ho
  subst hft
  simp [Instr.fieldAt, run_underlying hu, hf, Instr.sureAddr, fieldPlace, hF.sizeOf, hj', Addr.add_lit]

theorem run_part {t : TypeId} {i : TI} (hT : TIOK P t i) {cs : List PV} {vs : Array Value} (hs : VSims c cs vs.toList) {o : Nat} {p : PV} (hp : part i cs o = some p) :
    ∃ v, (Go.part t vs o).run P c.w = .ok v c.w ∧ VSim c p v := by
  unfold part at hp
  rw [cond_eq_ite] at hp
  have hs' := (VSims_iff c cs vs.toList).1 hs
  split at hp
  · rename_i hag
    rw [cond_eq_ite] at hp
    split at hp
    · rename_i hle
      cases hp
      have hle : o + i.sz ≤ cs.length := Nat.le_of_ble_eq_true hle
      refine ⟨.agg (vs.extract o (o + i.sz)), ?_, ?_⟩
      · simp [Go.part, hT.d.isAgg, hag, hT.sizeOf]
      · simp only [VSim]
        refine ⟨_, rfl, ?_⟩
        rw [Array.toList_extract, List.extract_eq_take_drop, Nat.add_sub_cancel_left]
        exact (VSims_iff c _ _).2 ((hs'.drop o).take i.sz)
    · cases hp
  · rename_i hag
    obtain ⟨v, hv, hsim⟩ := hs'.get o hp
    refine ⟨v, ?_, hsim⟩
    have hv' : vs[o]? = some v := by simpa using hv
    simp [Go.part, hT.d.isAgg, hag, hv']

theorem field_good {t ft : TypeId} {i j : TI} (hT : TIOK P t i) (hF : TIOK P ft j) (hs : HSim w0 X h c) {fs : List (Nat × TypeId)} (hfs : i.d = .struct fs) {k o : Nat} (hk : lget fs k = some (o, ft))
    {cs : List PV} {p : PV} {x : Value} (hq : VSim c (.agg cs) x) (hm : part j cs o = some p) : Good w0 X h [] N c p ((Instr.field t x k).run P c.w) := by
  simp only [VSim] at hq
  obtain ⟨vs, rfl, hvs⟩ := hq
  have hd := hT.d
  rw [hfs] at hd
  obtain ⟨fields, hu, hmap⟩ := hd
  obtain ⟨f, hf, ho, hft⟩ := field_at hmap hk
  subst ho
  subst hft
  obtain ⟨v, hr, hv⟩ := run_part hF hvs hm
  exact good_pure hs (by simp [Instr.field, run_underlying hu, hf, asAgg, hr]) hv

theorem extract_good (hs : HSim w0 X h c) {ps : List PV} {p : PV} {x : Value} {n : Nat} (hq : VSim c (.tup ps) x) (hp : lget ps n = some p) : Good w0 X h [] N c p ((Instr.extract x n).run P c.w) := by
  simp only [VSim] at hq
  obtain ⟨vs, rfl, hvs⟩ := hq
  obtain ⟨v, hv, hsim⟩ := ((VSims_iff c _ _).1 hvs).get n hp
  have hv' : vs[n]? = some v := by simpa using hv
  exact good_pure hs (by simp [Instr.extract, hv']) hsim

end
end Go.Proofs.Ytilfdpllleninaa
