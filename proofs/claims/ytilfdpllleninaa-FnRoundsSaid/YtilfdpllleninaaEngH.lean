/- The engine, part H: calls by contract. -/
import Derived.Test.YtilfdpllleninaaEngGb
namespace Go.Proofs.Ytilfdpllleninaa
set_option linter.unusedVariables false
set_option linter.unusedSimpArgs false

/-- How a callee finds the world: nothing of it is its own. -/
def argCx (w : World) (vs : Array Value) : Cx := { w := w, pr := fun n => n < w.heap.size, φ := fun _ => undef, K := fun _ => False, ar := vs }

def retCx (w' : World) (pr : Nat → Prop) (φ : Nat → Value) (r : Ret) (vs : Array Value) : Cx := { w := w', pr := pr, φ := φ, K := fun n => n < r.bl.length, ar := vs }

/-- What came back is what the contract says. -/
def RetSim (w w' : World) (vs : Array Value) (r : Ret) (v : Value) : Prop :=
  ∃ (pr : Nat → Prop) (φ : Nat → Value), VSim (retCx w' pr φ r vs) r.v v ∧ HSim w (fun _ => False) (lget r.bl) (retCx w' pr φ r vs)

def CallsTo (P : Program) (f : FuncId) (vs : Array Value) (w : World) (R : Value → World → Prop) : Prop :=
  ∀ (o : Oper) (a : Act) (K' : Act → World → Prop) (Q : Exit → Act → World → Prop), (∀ v w', R v w' → K' (a.put o.dst v) w') → o.upon P a K' Q ((callFunc f vs).run P w)

def FunOK (P : Program) (f : FuncId) (F : Fun) : Prop :=
  ∀ (w : World) (args : List PV) (vs : Array Value) (r : Ret), IvOK w → F args = some r → VSims (argCx w vs) args vs.toList → CallsTo P f vs w (fun v w' => RetSim w w' vs r v)

/-- What came back of a function that writes into its first argument. -/
def MutSim (M : MCon) (w w' : World) (v : Value) (r : PV) (xs' : List M.c.T) (rv : Value) : Prop :=
  (r.plain = true → VSim (argCx w' #[]) r rv) ∧ (∃ us, OwnsG w' M.e M.c.size v xs'.length us ∧ All2 SSim (flat M.c xs') us) ∧
  (∀ n, n < w.heap.size → blkOf v ≠ some n → w'.heap[n]? = w.heap[n]?) ∧ w'.os = w.os ∧ w'.tape = w.tape ∧ w'.output = w.output ∧ w.heap.size ≤ w'.heap.size

def MutOK (P : Program) (f : FuncId) (M : MCon) : Prop :=
  ∀ (w : World) (xs : List M.c.T) (ps : List PV) (v : Value) (vs us : List Value) (t : DT (PV × List M.c.T)) (r : PV) (xs' : List M.c.T), IvOK w → (∀ n, IvD n → blkOf v ≠ some n) → M.F xs ps = some t → t.get = some (r, xs') → plains ps = true → r.plain = true → VSims (argCx w #[]) ps vs →
    OwnsG w M.e M.c.size v xs.length us → All2 SSim (flat M.c xs) us → CallsTo P f (v :: vs).toArray w (fun rv w' => MutSim M w w' v r xs' rv)

/-- How a callee finds the world of which it may write block b alone. -/
def bxCx (w : World) (b : Nat) : Cx := { w := w, pr := fun n => n < w.heap.size ∧ n ≠ b, φ := fun _ => undef, K := fun _ => False, ar := #[] }

/-- Cells that are as they were, or told anew. -/
def Kept : List (Option PV) → List Value → List Value → Prop
  | [], [], [] => True
  | none :: os, v :: vs, v' :: vs' => v' = v ∧ Kept os vs vs'
  | some p :: os, _ :: vs, v' :: vs' => (∀ c, VSim c p v') ∧ Kept os vs vs'
  | _, _, _ => False

/-- What came back of a function that writes into a box. -/
def BoxSim (w w' : World) (b : Nat) (arr : Array Value) (r : PV) (out : List (Option PV)) (rv : Value) : Prop :=
  (∀ c, VSim c r rv) ∧ (∃ arr' e', w'.heap[b]? = some (.cells arr' e' (0, 0)) ∧ Kept out arr.toList arr'.toList) ∧
  (∀ n, n < w.heap.size → n ≠ b → w'.heap[n]? = w.heap[n]?) ∧ w'.os = w.os ∧ w'.tape = w.tape ∧ w'.output = w.output ∧ w.heap.size ≤ w'.heap.size

def BoxOK (P : Program) (f : FuncId) (M : BCon) : Prop :=
  ∀ (w : World) (b : Nat) (arr : Array Value) (e : TypeId) (cs ps : List PV) (vs : List Value) (t : DT (PV × List (Option PV))) (r : PV) (out : List (Option PV)), IvOK w → (∀ n, IvD n → n ≠ b) → w.heap[b]? = some (.cells arr e (0, 0)) →
    VSims (bxCx w b) cs arr.toList → M cs ps = some t → t.get = some (r, out) → r.flatB = true → VSims (bxCx w b) ps vs → CallsTo P f (.pointer (some ⟨b, 0, none⟩) :: vs).toArray w (fun rv w' => BoxSim w w' b arr r out rv)

def NewOK (P : Program) (f : FuncId) (M : NCon) : Prop :=
  ∀ (w : World) (args : List PV) (vs : Array Value) (cs : List PV), IvOK w → M args = some cs → VSims (argCx w vs) args vs.toList → CallsTo P f vs w (fun v w' => ∃ b arr e, v = .pointer (some ⟨b, 0, none⟩) ∧ w.heap.size ≤ b ∧ w'.heap[b]? = some (.cells arr e (0, 0)) ∧
    VSims (argCx w vs) cs arr.toList ∧ (∀ n, n < w.heap.size → w'.heap[n]? = w.heap[n]?) ∧ w'.os = w.os ∧ w'.tape = w.tape ∧ w'.output = w.output ∧ w.heap.size ≤ w'.heap.size)

structure GamOK (P : Program) (Γ : Gam) : Prop where
  cons : ∀ f G, Γ.cons f = some G → FunOK P f G.fn
  muts : ∀ f M, Γ.muts f = some M → MutOK P f M
  boxs : ∀ f M, Γ.boxs f = some M → BoxOK P f M
  news : ∀ f M, Γ.news f = some M → NewOK P f M

section
variable {P : Program} {w0 : World} {X : Nat → Prop} {h : Nat → Option Blk} {N : Nat → Prop} {c : Cx} {tm : Nat → PV} {a : Act}

theorem VSim.plain {c c' : Cx} {p : PV} {v : Value} (hp : p.plain = true) (h : VSim c p v) : VSim c' p v := by
  cases p <;> simp only [PV.plain, Bool.false_eq_true] at hp <;> simp only [VSim] at h ⊢ <;> exact h

theorem view_arg (hs : HSim w0 X h c) {vs : Array Value} {u : UC} {xs : List u.T} {a : Option Addr} (hw : ViewAt c.w c.pr u xs a) : ViewAt (argCx c.w vs).w (argCx c.w vs).pr u xs a := by
  intro hne
  obtain ⟨b, off, ha, hb, us, hc, hS⟩ := hw hne
  exact ⟨b, off, ha, hs.prlt b hb, us, hc, hS⟩

theorem vslc_arg (hs : HSim w0 X h c) {vs : Array Value} {tag : Nat} {u : UC} {xs : List u.T} {v : Value} (hv : VSim c (.vslc tag u xs) v) : VSim (argCx c.w vs) (.vslc 0 u xs) v := by
  simp only [VSim] at hv ⊢
  obtain ⟨_, a, m, hv, hm, hw⟩ := hv
  exact ⟨(fun i e => by cases e), a, m, hv, hm, view_arg hs hw⟩

theorem snapCells_sim (hs : HSim w0 X h c) {vs : Array Value} : ∀ {ps qs : List PV} {us : List Value}, VSims c ps us → Does tm h (snapCells ps) qs → VSims (argCx c.w vs) qs us
  | [], qs, [], _, hd => by simp only [snapCells, does_ret] at hd; subst hd; simp [VSims]
  | [], _, _ :: _, hv, _ => by simp [VSims] at hv
  | _ :: _, _, [], hv, _ => by simp [VSims] at hv
  | p :: ps, qs, u :: us, hv, hd => by
    simp only [VSims] at hv
    simp only [snapCells, does_bind, does_ret] at hd
    obtain ⟨q, h1, qs', h2, rfl⟩ := hd
    simp only [VSims]
    refine ⟨?_, snapCells_sim hs hv.2 h2⟩
    cases p <;> simp only [snapCell, does_ret, does_fail] at h1 <;> subst h1
    case vslc => exact vslc_arg hs hv.1
    all_goals exact VSim.plain rfl hv.1

theorem f32s_sim {c : Cx} : ∀ {cs : List PV} {us : List Value} {xs : List Nat}, VSims c cs us → f32s cs = some xs → All2 SSim (flat (.flt .f32) xs) us
  | [], [], xs, _, hx => by simp only [f32s, Option.some.injEq] at hx; subst hx; simp [flat, All2]
  | [], _ :: _, _, hv, _ => by simp [VSims] at hv
  | _ :: _, [], _, hv, _ => by simp [VSims] at hv
  | p :: ps, u :: us, xs, hv, hx => by
    simp only [VSims] at hv
    unfold f32s at hx
    split at hx
    · rename_i e; cases e
    · rename_i x r e
      cases e
      split at hx
      · rename_i ys hy
        cases hx
        have hh := hv.1
        simp only [VSim] at hh
        have := f32s_sim hv.2 hy
        simp only [flat, UC.enc, List.cons_append, List.nil_append, All2, SSim]
        exact ⟨hh, this⟩
      · cases hx
    · cases hx

theorem snap0_sim (hs : HSim w0 X h c) {vs : Array Value} {p q : PV} {v : Value} (hv : VSim c p v) (hd : Does tm h (snap0 p) q) : VSim (argCx c.w vs) q v := by
  cases p <;> simp only [snap0, does_ret, does_fail] at hd
  case ptr id j =>
    simp only [does_bind, does_blk] at hd
    obtain ⟨b, rfl, hd⟩ := hd
    split at hd
    · rename_i cs hb
      simp only [does_bind, does_ret] at hd
      obtain ⟨cs', hcs, rfl⟩ := hd
      obtain ⟨_, b, arr, e, hf, hheap, hsim⟩ := hs.blk id _ hb
      simp only [VSim] at hv ⊢
      obtain ⟨_, b', hf', rfl⟩ := hv
      rw [hf] at hf'
      cases hf'
      exact ⟨b, 0, arr.toList, by rw [Nat.zero_add], (Array.getElem?_eq_some_iff.1 hheap).1, cellsAt_heap hheap, snapCells_sim hs hsim hcs⟩
    · simp at hd
  case eptr id sz n j =>
    simp only [does_bind, does_blk] at hd
    obtain ⟨b, rfl, hd⟩ := hd
    split at hd
    · rename_i e u xs hb
      simp only [does_bind, does_need, decide_eq_true_eq] at hd
      obtain ⟨_, hn, hd⟩ := hd
      rw [cond_eq_ite] at hd
      split at hd
      · rename_i hsz
        have hsz := eq_of_beq hsz
        subst hsz
        simp only [does_ret] at hd
        subst hd
        obtain ⟨_, us, ho, hS⟩ := hs.blk id _ hb
        simp only [VSim] at hv ⊢
        obtain ⟨_, b', l, m, hf', rfl⟩ := hv
        have hb' : blkOf (c.φ id) = some b' := by rw [hf']; rfl
        obtain ⟨_, _, _, ⟨_, hheap, _⟩, _, _, _, hc⟩ := ownsRow_cells ho hb'
        have := hc.part (n * u.size) u.size
        rw [Nat.zero_add] at this
        exact ⟨b', _, _, rfl, (Array.getElem?_eq_some_iff.1 hheap).1, this, VSims.of_S (flat_enc_view hS hn)⟩
      · simp at hd
    · simp at hd
  case vcell cs j =>
    simp only [does_bind, does_ret] at hd
    obtain ⟨cs', hcs, rfl⟩ := hd
    simp only [VSim] at hv ⊢
    obtain ⟨b, off, us, hv, hb, hc, hsim⟩ := hv
    exact ⟨b, off, us, hv, hs.prlt b hb, hc, snapCells_sim hs hsim hcs⟩
  case agg cs =>
    simp only [does_bind, does_ret] at hd
    obtain ⟨cs', hcs, rfl⟩ := hd
    simp only [VSim] at hv ⊢
    obtain ⟨us, hv, hsim⟩ := hv
    exact ⟨us, hv, snapCells_sim hs hsim hcs⟩
  case own id =>
    simp only [does_bind, does_blk] at hd
    obtain ⟨b, rfl, hd⟩ := hd
    split at hd
    · rename_i e u xs hb
      simp only [does_ret] at hd
      subst hd
      obtain ⟨_, us, ho, hS⟩ := hs.blk id _ hb
      simp only [VSim] at hv ⊢
      obtain ⟨_, rfl, _⟩ := hv
      refine ⟨(fun i e => by cases e), ?_⟩
      rcases ho.2 with ⟨hv, hn⟩ | ⟨g, cap, cur, fz, hv, _, _, hn, _⟩
      · exact ⟨none, 0, by rw [hv, hn], by rw [hn]; exact Nat.le_refl _, fun hne => absurd (List.eq_nil_of_length_eq_zero hn) hne⟩
      · obtain ⟨_, _, _, ⟨_, hheap, _⟩, _, _, _, hc⟩ := ownsRow_cells ho (show blkOf (c.φ id) = some g by rw [hv]; rfl)
        exact ⟨_, cap, hv, hn, fun _ => ⟨g, 0, rfl, (Array.getElem?_eq_some_iff.1 hheap).1, us, hc, hS⟩⟩
    · simp at hd
  case osub id sz lo n =>
    simp only [does_bind, does_blk] at hd
    obtain ⟨b, rfl, hd⟩ := hd
    split at hd
    · rename_i e u xs hb
      simp only [does_bind, does_need, decide_eq_true_eq] at hd
      obtain ⟨_, hle, hd⟩ := hd
      rw [cond_eq_ite] at hd
      split at hd
      · rename_i hsz
        have hsz := eq_of_beq hsz
        subst hsz
        simp only [does_ret] at hd
        subst hd
        obtain ⟨_, us, ho, hS⟩ := hs.blk id _ hb
        simp only [VSim] at hv ⊢
        obtain ⟨_, a, m, rfl, hm, hne, _⟩ := hv
        have hl : ((xs.drop lo).take n).length = n := by rw [List.length_take, List.length_drop]; omega
        refine ⟨(fun i e => by cases e), a, m, by rw [hl], by rw [hl]; exact hm, fun hne' => ?_⟩
        obtain ⟨g, l, m', hf, rfl⟩ := hne (fun e => by rw [e] at hne'; simp at hne')
        obtain ⟨_, _, _, ⟨_, hheap, _⟩, _, _, _, hc⟩ := ownsRow_cells ho (show blkOf (c.φ id) = some g by rw [hf]; rfl)
        refine ⟨g, lo * u.size, rfl, (Array.getElem?_eq_some_iff.1 hheap).1, (us.drop (lo * u.size)).take (n * u.size), ?_, ?_⟩
        · have := hc.part (lo * u.size) (n * u.size)
          rw [Nat.zero_add] at this
          exact this
        · rw [flat_take, flat_drop]
          exact (hS.drop _).take _
      · simp at hd
    · simp at hd
  case asl id n =>
    simp only [does_bind, does_blk] at hd
    obtain ⟨b, rfl, hd⟩ := hd
    split at hd
    · rename_i cs hb
      simp only [does_bind, does_lift] at hd
      obtain ⟨xs, hx, hd⟩ := hd
      rw [cond_eq_ite] at hd
      split at hd
      · rename_i hn
        have hn := Nat.eq_of_beq_eq_true hn
        subst hn
        simp only [does_ret] at hd
        subst hd
        obtain ⟨_, b, arr, e, hf, hheap, hsim⟩ := hs.blk id _ hb
        simp only [VSim] at hv ⊢
        obtain ⟨_, b', hf', rfl⟩ := hv
        rw [hf] at hf'
        cases hf'
        exact ⟨(fun i e => by cases e), _, _, rfl, Nat.le_refl _, fun _ => ⟨b, 0, rfl, (Array.getElem?_eq_some_iff.1 hheap).1, arr.toList, cellsAt_heap hheap, f32s_sim hsim hx⟩⟩
      · simp at hd
    · simp at hd
  case vslc =>
    subst hd
    exact vslc_arg hs hv
  case boolK =>
    subst hd
    simpa only [VSim] using hv
  all_goals
    subst hd
    exact VSim.plain rfl hv

theorem snap0s_sim (hs : HSim w0 X h c) {vs : Array Value} : ∀ {ps qs : List PV} {us : List Value}, VSims c ps us → Does tm h (snap0s ps) qs → VSims (argCx c.w vs) qs us
  | [], qs, [], _, hd => by simp only [snap0s, does_ret] at hd; subst hd; simp [VSims]
  | [], _, _ :: _, hv, _ => by simp [VSims] at hv
  | _ :: _, _, [], hv, _ => by simp [VSims] at hv
  | p :: ps, qs, u :: us, hv, hd => by
    simp only [VSims] at hv
    simp only [snap0s, does_bind, does_ret] at hd
    obtain ⟨q, h1, qs', h2, rfl⟩ := hd
    simp only [VSims]
    exact ⟨snap0_sim hs hv.1 h1, snap0s_sim hs hv.2 h2⟩

theorem snap0s_length : ∀ {ps qs : List PV}, Does tm h (snap0s ps) qs → qs.length = ps.length
  | [], qs, hd => by simp only [snap0s, does_ret] at hd; subst hd; rfl
  | p :: ps, qs, hd => by
    simp only [snap0s, does_bind, does_ret] at hd
    obtain ⟨q, _, qs', h2, rfl⟩ := hd
    simp only [List.length_cons, snap0s_length h2]

theorem snapFs_sim (hs : HSim w0 X h c) {vs : Array Value} : ∀ {ps qs : List PV} {us : List Value}, VSims c ps us → Does tm h (snapFs ps) qs → VSims (argCx c.w vs) qs us
  | [], qs, [], _, hd => by simp only [snapFs, does_ret] at hd; subst hd; simp [VSims]
  | [], _, _ :: _, hv, _ => by simp [VSims] at hv
  | _ :: _, _, [], hv, _ => by simp [VSims] at hv
  | p :: ps, qs, u :: us, hv, hd => by
    simp only [VSims] at hv
    simp only [snapFs, does_bind, does_ret] at hd
    obtain ⟨q, h1, qs', h2, rfl⟩ := hd
    simp only [VSims]
    refine ⟨?_, snapFs_sim hs hv.2 h2⟩
    unfold snapF at h1
    split at h1
    · simp only [does_bind, does_ret] at h1
      obtain ⟨f', g1, c', g2, rfl⟩ := h1
      have hv := hv.1
      simp only [VSim] at hv ⊢
      obtain ⟨f1, c1, hv, ha, hb⟩ := hv
      exact ⟨f1, c1, hv, snap0s_sim hs ha g1, snap0s_sim hs hb g2⟩
    · have g : Does tm h (snapCells [p]) [q] := by
        simp only [snapCells, does_bind, does_ret]
        exact ⟨q, h1, [], rfl, rfl⟩
      have := snapCells_sim (vs := vs) hs (ps := [p]) (qs := [q]) (us := [u]) (by simp only [VSims]; exact ⟨hv.1, trivial⟩) g
      simp only [VSims] at this
      exact this.1

theorem snap2_sim (hs : HSim w0 X h c) {vs : Array Value} {p q : PV} {v : Value} (hv : VSim c p v) (hd : Does tm h (snap2 p) q) : VSim (argCx c.w vs) q v := by
  unfold snap2 at hd
  split at hd
  · rename_i id j
    simp only [does_bind, does_blk] at hd
    obtain ⟨b, rfl, hd⟩ := hd
    split at hd
    · rename_i cs hb
      simp only [does_bind, does_ret] at hd
      obtain ⟨cs', hcs, rfl⟩ := hd
      obtain ⟨_, b, arr, e, hf, hheap, hsim⟩ := hs.blk id _ hb
      simp only [VSim] at hv ⊢
      obtain ⟨_, b', hf', rfl⟩ := hv
      rw [hf] at hf'
      cases hf'
      exact ⟨b, 0, arr.toList, by rw [Nat.zero_add], (Array.getElem?_eq_some_iff.1 hheap).1, cellsAt_heap hheap, snapFs_sim hs hsim hcs⟩
    · simp at hd
  · simp only [does_bind, does_ret] at hd
    obtain ⟨cs', hcs, rfl⟩ := hd
    simp only [VSim] at hv ⊢
    obtain ⟨b, off, us, hv, hb, hc, hsim⟩ := hv
    exact ⟨b, off, us, hv, hs.prlt b hb, hc, snapFs_sim hs hsim hcs⟩
  · exact snap0_sim hs hv hd

theorem snap2s_sim (hs : HSim w0 X h c) {vs : Array Value} : ∀ {ps qs : List PV} {us : List Value}, VSims c ps us → Does tm h (snap2s ps) qs → VSims (argCx c.w vs) qs us
  | [], qs, [], _, hd => by simp only [snap2s, does_ret] at hd; subst hd; simp [VSims]
  | [], _, _ :: _, hv, _ => by simp [VSims] at hv
  | _ :: _, _, [], hv, _ => by simp [VSims] at hv
  | p :: ps, qs, u :: us, hv, hd => by
    simp only [VSims] at hv
    simp only [snap2s, does_bind, does_ret] at hd
    obtain ⟨q, h1, qs', h2, rfl⟩ := hd
    simp only [VSims]
    exact ⟨snap2_sim hs hv.1 h1, snap2s_sim hs hv.2 h2⟩

theorem snap1_sim (hs : HSim w0 X h c) {vs : Array Value} {p q : PV} {v : Value} (hv : VSim c p v) (hd : Does tm h (snap1 p) q) : VSim (argCx c.w vs) q v := by
  unfold snap1 at hd
  split at hd
  · simp only [does_bind, does_ret] at hd
    obtain ⟨cs', hcs, rfl⟩ := hd
    simp only [VSim] at hv ⊢
    obtain ⟨b, us, hv, hb, hc, hsim⟩ := hv
    exact ⟨b, us, by rw [snap0s_length hcs]; exact hv, hs.prlt b hb, hc, snap0s_sim hs hsim hcs⟩
  · exact snap2_sim hs hv hd

theorem snap_sim (hs : HSim w0 X h c) {vs : Array Value} {i : Nat} {p q : PV} {v : Value} (hi : vs[i]? = some v) (hv : VSim c p v) (hd : Does tm h (snap i p) q) : VSim (argCx c.w vs) q v := by
  unfold snap at hd
  split at hd
  · simp only [does_bind, does_ret] at hd
    obtain ⟨f', h1, c', h2, rfl⟩ := hd
    simp only [VSim] at hv ⊢
    obtain ⟨f1, c1, hv, ha, hb⟩ := hv
    exact ⟨f1, c1, hv, snap2s_sim hs ha h1, snap2s_sim hs hb h2⟩
  · simp only [does_bind] at hd
    obtain ⟨w, h1, hd⟩ := hd
    have hw := snap1_sim (vs := vs) hs hv h1
    split at hd
    · simp only [does_ret] at hd
      subst hd
      simp only [VSim] at hw ⊢
      exact ⟨fun j e => by cases e; exact hi, hw.2⟩
    · simp only [does_ret] at hd
      subst hd
      exact hw

theorem snaps_sim (hs : HSim w0 X h c) {vs : Array Value} : ∀ {i : Nat} {ps qs : List PV} {us : List Value}, (∀ j u, us[j]? = some u → vs[i + j]? = some u) → VSims c ps us → Does tm h (snaps i ps) qs → VSims (argCx c.w vs) qs us
  | _, [], qs, [], _, _, hd => by simp only [snaps, does_ret] at hd; subst hd; simp [VSims]
  | _, [], _, _ :: _, _, hv, _ => by simp [VSims] at hv
  | _, _ :: _, _, [], _, hv, _ => by simp [VSims] at hv
  | i, p :: ps, qs, u :: us, hi, hv, hd => by
    simp only [VSims] at hv
    simp only [snaps, does_bind, does_ret] at hd
    obtain ⟨q, h1, qs', h2, rfl⟩ := hd
    simp only [VSims]
    exact ⟨snap_sim hs (hi 0 u rfl) hv.1 h1, snaps_sim hs (i := i + 1) (fun j x hx => by have := hi (j + 1) x (by simpa using hx); rwa [show i + 1 + j = i + (j + 1) from by omega]) hv.2 h2⟩

theorem updH_numbered (h : Nat → Option Blk) : ∀ (bl : List Blk) (idb n : Nat), updH h (numbered idb bl) n = if idb ≤ n ∧ n < idb + bl.length then lget bl (n - idb) else h n
  | [], idb, n => by simp [numbered, updH]; omega
  | b :: bl, idb, n => by
    simp only [numbered, updH]
    rw [updH_numbered (fun n => bif n == idb then some b else h n) bl (idb + 1) n]
    simp only [List.length_cons, cond_eq_ite, beq_iff_eq]
    by_cases q : n = idb
    · subst q
      rw [if_neg (by omega), if_pos rfl, if_pos (by omega), Nat.sub_self]
      rfl
    · rw [if_neg q]
      by_cases q' : idb ≤ n ∧ n < idb + (bl.length + 1)
      · rw [if_pos (by omega), if_pos q']
        obtain ⟨k, rfl⟩ : ∃ k, n = idb + 1 + k := ⟨n - idb - 1, by omega⟩
        rw [show idb + 1 + k - (idb + 1) = k from by omega, show idb + 1 + k - idb = k + 1 from by omega]
        rfl
      · rw [if_neg (by omega), if_neg q']

theorem lget_lt {α : Type} : ∀ {l : List α} {n : Nat} {x : α}, lget l n = some x → n < l.length
  | [], _, _, e => by simp [lget] at e
  | _ :: _, 0, _, _ => by simp
  | _ :: _, n + 1, _, e => by simp only [lget] at e; have := lget_lt e; simp; omega

theorem typedB_get : ∀ {l : List Blk} {n : Nat} {b : Blk}, typedB l = true → lget l n = some b → ∃ e u xs, b = .typed e u xs
  | [], _, _, _, e => by simp [lget] at e
  | .typed e u xs :: _, 0, _, _, h => by simp only [lget, Option.some.injEq] at h; subst h; exact ⟨e, u, xs, rfl⟩
  | .typed _ _ _ :: l, n + 1, _, ht, h => typedB_get (l := l) (by simpa [typedB] using ht) (by simpa [lget] using h)
  | .cells _ :: _, _, _, ht, _ => by simp [typedB] at ht

theorem dt_get {α : Type} {h : Nat → Option Blk} {tm : Nat → PV} {r : α} : ∀ {t : DT α}, Does tm h t.rd r → t.get = some r
  | .leaf a, hd => by simp only [DT.rd, does_ret] at hd; simp only [DT.get, hd]
  | .ask c t e, hd => by
    simp only [DT.rd, does_bind, does_ask] at hd
    obtain ⟨b, rfl, hd⟩ := hd
    cases c with
    | true => exact dt_get (t := t) hd
    | false => exact dt_get (t := e) hd
  | .need c t, hd => by
    simp only [DT.rd, does_bind, does_need] at hd
    obtain ⟨_, rfl, hd⟩ := hd
    exact dt_get (t := t) hd
  | .skip t, hd => dt_get (t := t) hd
  | .fail, hd => by simp [DT.rd] at hd

theorem callR_good (hs : HSim w0 X h c) {Γ : Gam} (hΓ : GamOK P Γ) {idb : Nat} (hN : ∀ n, idb ≤ n → n < idb + 8 → N n) (hid : ∀ n, idb ≤ n → n < idb + 8 → ¬ c.K n) {f : FuncId} {args : List PV} {vs : Array Value} (ha : VSims c args vs.toList) {r : OR} (hd : Does tm h (callR Γ idb f args) r)
    (o : Oper) (ac : Act) (K' : Act → World → Prop) (Q : Exit → Act → World → Prop) (hk : ∀ v c', Ext N c c' → VSim c' r.v v → HSim w0 X (updH h r.wr) c' → K' (ac.put o.dst v) c'.w) : o.upon P ac K' Q ((callFunc f vs).run P c.w) := by
  unfold callR at hd
  simp only [does_bind, does_lift] at hd
  obtain ⟨F, hF, az, has, dt, hdt, rt, hrt0, p, hp, hd⟩ := hd
  have hrt : F.fn az = some rt := by
    unfold Con.fn
    rw [hdt]
    exact dt_get hrt0
  rw [cond_eq_ite] at hd
  split at hd
  · rename_i hcond
    rw [and_true_iff] at hcond
    have hlen := Nat.le_of_ble_eq_true hcond.1
    have htyp := hcond.2
    simp only [does_ret] at hd
    subst hd
    have has' := snaps_sim (vs := vs) hs (i := 0) (fun j u hu => by rw [Nat.zero_add]; simpa using hu) ha has
    refine hΓ.cons f F hF c.w az vs rt hs.ivOK hrt has' o ac K' Q ?_
    rintro v w' ⟨pr, φ, hv, hh⟩
    let c' : Cx := { w := w', pr := c.pr, φ := fun n => if idb ≤ n ∧ n < idb + rt.bl.length then φ (n - idb) else c.φ n, K := fun n => c.K n ∨ (idb ≤ n ∧ n < idb + rt.bl.length), ar := c.ar }
    have hold : ∀ n, n < c.w.heap.size → w'.heap[n]? = c.w.heap[n]? := fun n hn => hh.fr n hn (fun e => e)
    have hφold : ∀ n, c.K n → c'.φ n = c.φ n := fun n hn => if_neg fun e => hid n e.1 (by omega) hn
    have hφnew : ∀ k, k < rt.bl.length → c'.φ (idb + k) = φ k := fun k hk => by
      show (if idb ≤ idb + k ∧ idb + k < idb + rt.bl.length then φ (idb + k - idb) else c.φ (idb + k)) = φ k
      rw [if_pos (by omega), Nat.add_sub_cancel_left]
    have e : Ext N c c' := ⟨fun n hn => ⟨.inl hn, hφold n hn⟩, fun n hn => hn.imp (fun a => a) (fun a => hN n a.1 (by omega)), fun n hn => ⟨hn, hold n (hs.prlt n hn)⟩, rfl⟩
    refine hk v c' e ?_ ?_
    · -- the value
      have scal : ∀ {p q : PV} {v : Value}, VSim (retCx w' pr φ rt vs) p v → Does tm h (backC idb args p) q → VSim c' q v := by
        intro p q v hv hb
        unfold backC at hb
        split at hb
        · simp only [does_ret] at hb
          subst hb
          simp only [VSim] at hv ⊢
          obtain ⟨hk, rfl, a, l, m, hs⟩ := hv
          have hk : _ < rt.bl.length := hk
          exact ⟨.inr ⟨by omega, by omega⟩, (hφnew _ hk).symm, a, l, m, hs⟩
        · simp at hb
        · simp only [does_lift] at hb
          rename_i i _ _
          simp only [VSim] at hv
          obtain ⟨y, hy, hsim⟩ := ((VSims_iff c _ _).1 ha).get i hb
          have := hv.1 i rfl
          have hy' : vs[i]? = some y := by simpa using hy
          rw [show (retCx w' pr φ rt vs).ar = vs from rfl, hy'] at this
          cases this
          exact hsim.ext e
        all_goals first
          | (simp only [does_ret] at hb; subst hb; exact VSim.plain rfl hv)
          | (simp only [does_fail] at hb)
      have el : ∀ {p q : PV} {v : Value}, VSim (retCx w' pr φ rt vs) p v → Does tm h (backE idb args p) q → VSim c' q v := by
        intro p q v hv hb
        unfold backE at hb
        split at hb
        · rw [cond_eq_ite] at hb
          split at hb
          · rename_i hsc
            simp only [does_ret] at hb
            subst hb
            simp only [VSim] at hv ⊢
            obtain ⟨us, hv, hsim⟩ := hv
            exact ⟨us, hv, VSims.of_S (SSims_of hsim hsc)⟩
          · simp at hb
        · exact scal hv hb
      have els : ∀ {ps qs : List PV} {us : List Value}, VSims (retCx w' pr φ rt vs) ps us → Does tm h (backEs idb args ps) qs → VSims c' qs us := by
        intro ps
        induction ps with
        | nil => intro qs us hv hb; simp only [backEs, does_ret] at hb; subst hb; cases us <;> simp_all [VSims]
        | cons p ps ih =>
          intro qs us hv hb
          cases us with
          | nil => simp [VSims] at hv
          | cons u us =>
            simp only [VSims] at hv
            simp only [backEs, does_bind, does_ret] at hb
            obtain ⟨q, h1, qs', h2, rfl⟩ := hb
            simp only [VSims]
            exact ⟨el hv.1 h1, ih hv.2 h2⟩
      unfold back at hp
      split at hp
      · rename_i ps hps
        simp only [does_bind, does_ret] at hp
        obtain ⟨qs, hq, rfl⟩ := hp
        rw [hps] at hv
        simp only [VSim] at hv ⊢
        obtain ⟨us, hv, hsim⟩ := hv
        exact ⟨us, hv, els hsim hq⟩
      · exact el hv hp
    · -- the blocks
      have look : ∀ n b, updH h (numbered idb rt.bl) n = some b → (idb ≤ n ∧ n < idb + rt.bl.length ∧ lget rt.bl (n - idb) = some b) ∨ (¬ (idb ≤ n ∧ n < idb + rt.bl.length) ∧ h n = some b) := fun n b hn => by
        rw [updH_numbered] at hn
        by_cases q : idb ≤ n ∧ n < idb + rt.bl.length
        · rw [if_pos q] at hn; exact .inl ⟨q.1, q.2, hn⟩
        · rw [if_neg q] at hn; exact .inr ⟨q, hn⟩
      have hφ' : ∀ n, idb ≤ n → n < idb + rt.bl.length → c'.φ n = φ (n - idb) := fun n h1 h2 => if_pos ⟨h1, h2⟩
      refine ⟨fun n b hn => ?_, fun n b m hn hm => ?_, fun i j bi bj n hi hj hbi hbj => ?_, fun n hn hx => ?_, hh.os.trans hs.os, hh.tape.trans hs.tape, hh.output.trans hs.output, Nat.le_trans hs.sz hh.sz, fun n hn => Nat.lt_of_lt_of_le (hs.prlt n hn) hh.sz, hs.iv⟩
      · rcases look n b hn with ⟨h1, h2, hb⟩ | ⟨_, hn⟩
        · refine ⟨.inr ⟨h1, h2⟩, ?_⟩
          obtain ⟨e', u, xs, rfl⟩ := typedB_get htyp hb
          obtain ⟨_, us, ho, hS⟩ := hh.blk _ _ hb
          exact ⟨us, by rw [hφ' n h1 h2]; exact ho, hS⟩
        · have hk := hs.blk n b hn
          exact ⟨.inl hk.1, hk.2.keep e hk.1 fun m hm => hold m (hk.2.lt hm)⟩
      · rcases look n b hn with ⟨h1, h2, hb⟩ | ⟨_, hn⟩
        · rw [hφ' n h1 h2] at hm
          have := hh.lo _ b m hb hm
          have hge : c.w.heap.size ≤ m := this.1.resolve_right (fun e => e)
          exact ⟨.inl (Nat.le_trans hs.sz hge), fun hp => by have := hs.prlt m hp; omega⟩
        · have hk := hs.blk n b hn
          rw [hφold n hk.1] at hm
          exact hs.lo n b m hn hm
      · rcases look i bi hi with ⟨h1, h2, hb⟩ | ⟨_, hi'⟩
        · rw [hφ' i h1 h2] at hbi
          have hge : c.w.heap.size ≤ n := (hh.lo _ bi n hb hbi).1.resolve_right (fun e => e)
          rcases look j bj hj with ⟨h3, h4, hb'⟩ | ⟨_, hj'⟩
          · rw [hφ' j h3 h4] at hbj
            have := hh.inj _ _ _ _ n hb hb' hbi hbj
            omega
          · have hk := hs.blk j bj hj'
            rw [hφold j hk.1] at hbj
            have := hk.2.lt hbj; omega
        · have hki := hs.blk i bi hi'
          rw [hφold i hki.1] at hbi
          rcases look j bj hj with ⟨h3, h4, hb'⟩ | ⟨_, hj'⟩
          · rw [hφ' j h3 h4] at hbj
            have hge : c.w.heap.size ≤ n := (hh.lo _ bj n hb' hbj).1.resolve_right (fun e => e)
            have := hki.2.lt hbi; omega
          · have hk := hs.blk j bj hj'
            rw [hφold j hk.1] at hbj
            exact hs.inj i j bi bj n hi' hj' hbi hbj
      · exact (hold n (Nat.lt_of_lt_of_le hn hs.sz)).trans (hs.fr n hn hx)
  · simp at hd

theorem plains_get : ∀ {ps : List PV}, plains ps = true → ∀ p ∈ ps, p.plain = true
  | [], _, p, h => by cases h
  | q :: qs, h, p, hp => by
    simp only [plains, Bool.and_eq_true] at h
    rcases List.mem_cons.1 hp with rfl | hp
    · exact h.1
    · exact plains_get h.2 p hp

theorem plains_sim {c c' : Cx} : ∀ {ps : List PV} {vs : List Value}, plains ps = true → VSims c ps vs → VSims c' ps vs
  | [], [], _, _ => by simp only [VSims]
  | [], _ :: _, _, h => by simp [VSims] at h
  | _ :: _, [], _, h => by simp [VSims] at h
  | p :: ps, v :: vs, hp, h => by
    simp only [plains, Bool.and_eq_true] at hp
    simp only [VSims] at h ⊢
    exact ⟨VSim.plain hp.1 h.1, plains_sim hp.2 h.2⟩

theorem callM_good (hs : HSim w0 X h c) {M : MCon} {f : FuncId} (hM : MutOK P f M) {args : List PV} {vs : Array Value} (ha : VSims c args vs.toList) {r : OR} (hd : Does tm h (callM M args) r)
    (o : Oper) (ac : Act) (K' : Act → World → Prop) (Q : Exit → Act → World → Prop) (hk : ∀ v c', Ext N c c' → VSim c' r.v v → HSim w0 X (updH h r.wr) c' → K' (ac.put o.dst v) c'.w) : o.upon P ac K' Q ((callFunc f vs).run P c.w) := by
  unfold callM at hd
  split at hd
  · rename_i id ps
    simp only [does_bind, does_blk] at hd
    obtain ⟨ob, hob, hd⟩ := hd
    split at hd
    · rename_i e' c1 xs
      simp only [does_bind, does_lift] at hd
      obtain ⟨ys, hys, t, ht, q, hq, hd⟩ := hd
      rw [cond_eq_ite] at hd
      split at hd
      · rename_i hcond
        simp only [Bool.and_eq_true, beq_iff_eq] at hcond
        obtain ⟨⟨rfl, hpl⟩, hqp⟩ := hcond
        simp only [does_ret] at hd
        subst hd
        obtain ⟨rfl, hys⟩ := UC.cast_eq _ _ _ _ hys
        simp only at hys
        subst hys
        have hid : h id = some (.typed M.e M.c xs) := hob
        obtain ⟨l, hvs⟩ : ∃ l, vs = l.toArray := ⟨vs.toList, by simp⟩
        subst hvs
        cases l with
        | nil => simp [VSims] at ha
        | cons v vs =>
          simp only [VSims] at ha
          obtain ⟨⟨hK, hv, _⟩, hps⟩ := ha
          obtain ⟨_, us, ho, hS⟩ := hs.blk id _ hid
          rw [← hv] at ho
          refine hM c.w xs ps v vs us t q.1 q.2 hs.ivOK (fun n hn hq => by
            rw [hv] at hq
            have h1 := (hs.lo id _ n hid hq).1
            have h2 := hs.iv.2 n hn
            rcases h1 with h1 | h1
            · omega
            · exact h2.2 h1) ht (dt_get hq) hpl hqp (plains_sim hpl hps) ho hS o ac K' Q ?_
          rintro rv w' ⟨hr, ⟨us', ho', hS'⟩, hold, hos, htape, hout, hsz⟩
          have hpr : ∀ n, c.pr n → n < c.w.heap.size ∧ w'.heap[n]? = c.w.heap[n]? := fun n hn => ⟨hs.prlt n hn, hold n (hs.prlt n hn) fun q' => by
            rw [hv] at q'
            exact (hs.lo id _ n hid q').2 hn⟩
          have e : ∀ N, Ext N c { c with w := w' } := fun N => ⟨fun n hn => ⟨hn, rfl⟩, fun n hn => .inl hn, fun n hn => ⟨hn, (hpr n hn).2⟩, rfl⟩
          refine hk rv { c with w := w' } (e N) (VSim.plain hqp (hr hqp)) ?_
          have look : ∀ n b', updH h [(id, some (.typed M.e M.c q.2))] n = some b' → (n = id ∧ b' = .typed M.e M.c q.2) ∨ (n ≠ id ∧ h n = some b') := fun n b' hn => by
            simp only [updH, cond_eq_ite, beq_iff_eq] at hn
            by_cases q' : n = id
            · rw [if_pos q'] at hn; exact .inl ⟨q', (Option.some.inj hn).symm⟩
            · rw [if_neg q'] at hn; exact .inr ⟨q', hn⟩
          have was : ∀ n b', updH h [(id, some (.typed M.e M.c q.2))] n = some b' → ∃ b'', h n = some b'' := fun n b' hn => by
            rcases look n b' hn with ⟨rfl, _⟩ | ⟨_, hn⟩
            · exact ⟨_, hid⟩
            · exact ⟨_, hn⟩
          refine ⟨fun n b' hn => ?_, fun n b' m hn hm => ?_, fun i j bi bj n hi hj hbi hbj => ?_, fun n hn hx => ?_, hos.trans hs.os, htape.trans hs.tape, hout.trans hs.output, Nat.le_trans hs.sz hsz, fun n hn => Nat.lt_of_lt_of_le (hs.prlt n hn) hsz, hs.iv⟩
          · rcases look n b' hn with ⟨rfl, rfl⟩ | ⟨q', hn⟩
            · exact ⟨hK, us', by rw [hv] at ho'; exact ho', hS'⟩
            · have hk' := hs.blk n b' hn
              refine ⟨hk'.1, hk'.2.keep (e fun _ => True) hk'.1 fun m hm => hold m (hk'.2.lt hm) fun q2 => q' ?_⟩
              rw [hv] at q2
              exact hs.inj n id b' _ m hn hid hm q2
          · obtain ⟨b'', hn'⟩ := was n b' hn
            exact hs.lo n b'' m hn' hm
          · obtain ⟨_, hi'⟩ := was i bi hi
            obtain ⟨_, hj'⟩ := was j bj hj
            exact hs.inj i j _ _ n hi' hj' hbi hbj
          · have hlt : n < c.w.heap.size := Nat.lt_of_lt_of_le hn hs.sz
            refine (hold n hlt fun q' => ?_).trans (hs.fr n hn hx)
            rw [hv] at q'
            rcases (hs.lo id _ n hid q').1 with h1 | h1
            · omega
            · exact hx h1
      · simp at hd
    · simp at hd
  · rename_i ps
    simp only [does_bind, does_lift] at hd
    obtain ⟨t, ht, q, hq, hd⟩ := hd
    rw [cond_eq_ite] at hd
    split at hd
    · rename_i hcond
      simp only [Bool.and_eq_true] at hcond
      simp only [does_ret] at hd
      subst hd
      obtain ⟨l, hvs⟩ : ∃ l, vs = l.toArray := ⟨vs.toList, by simp⟩
      subst hvs
      cases l with
      | nil => simp [VSims] at ha
      | cons v vs =>
        simp only [VSims] at ha
        obtain ⟨hv, hps⟩ := ha
        simp only [VSim] at hv
        subst hv
        refine hM c.w [] ps _ vs [] t q.1 q.2 hs.ivOK (fun n hn hq => by simp [blkOf] at hq) ht (dt_get hq) hcond.1 hcond.2 (plains_sim hcond.1 hps) ⟨by simp, .inl ⟨rfl, rfl⟩⟩ (by simp [flat, All2]) o ac K' Q ?_
        rintro rv w' ⟨hr, _, hold, hos, htape, hout, hsz⟩
        have hall : ∀ n, n < c.w.heap.size → w'.heap[n]? = c.w.heap[n]? := fun n hn => hold n hn (by simp [blkOf])
        have e : ∀ N, Ext N c { c with w := w' } := fun N => ⟨fun n hn => ⟨hn, rfl⟩, fun n hn => .inl hn, fun n hn => ⟨hn, hall n (hs.prlt n hn)⟩, rfl⟩
        refine hk rv { c with w := w' } (e N) (VSim.plain hcond.2 (hr hcond.2)) ?_
        exact ⟨fun n b hn => ⟨(hs.blk n b hn).1, (hs.blk n b hn).2.keep (e fun _ => True) (hs.blk n b hn).1 fun m hm => hall m ((hs.blk n b hn).2.lt hm)⟩, hs.lo, hs.inj, fun n hn hx => (hall n (Nat.lt_of_lt_of_le hn hs.sz)).trans (hs.fr n hn hx), hos.trans hs.os, htape.trans hs.tape, hout.trans hs.output, Nat.le_trans hs.sz hsz, fun n hn => Nat.lt_of_lt_of_le (hs.prlt n hn) hsz, hs.iv⟩
    · simp at hd
  · simp at hd

theorem VSim.plainB {c c' : Cx} {p : PV} {v : Value} (hp : p.flatB = true) (h : VSim c p v) : VSim c' p v := by
  cases p
  case agg cs =>
    simp only [PV.flatB] at hp
    simp only [VSim] at h ⊢
    obtain ⟨us, hv, hsim⟩ := h
    exact ⟨us, hv, VSims.of_S (SSims_of hsim hp)⟩
  all_goals exact VSim.plain hp h

theorem view_bx (hs : HSim w0 X h c) {b : Nat} (hb : ¬ c.pr b) {u : UC} {xs : List u.T} {a : Option Addr} (hw : ViewAt c.w c.pr u xs a) : ViewAt (bxCx c.w b).w (bxCx c.w b).pr u xs a := by
  intro hne
  obtain ⟨g, off, ha, hg, us, hc, hS⟩ := hw hne
  exact ⟨g, off, ha, ⟨hs.prlt g hg, fun e => hb (e ▸ hg)⟩, us, hc, hS⟩

theorem snapCells_bx (hs : HSim w0 X h c) {b : Nat} (hb : ¬ c.pr b) : ∀ {ps qs : List PV} {us : List Value}, VSims c ps us → Does tm h (snapCells ps) qs → VSims (bxCx c.w b) qs us
  | [], qs, [], _, hd => by simp only [snapCells, does_ret] at hd; subst hd; simp [VSims]
  | [], _, _ :: _, hv, _ => by simp [VSims] at hv
  | _ :: _, _, [], hv, _ => by simp [VSims] at hv
  | p :: ps, qs, u :: us, hv, hd => by
    simp only [VSims] at hv
    simp only [snapCells, does_bind, does_ret] at hd
    obtain ⟨q, h1, qs', h2, rfl⟩ := hd
    simp only [VSims]
    refine ⟨?_, snapCells_bx hs hb hv.2 h2⟩
    have h0 := hv.1
    cases p <;> simp only [snapCell, does_ret, does_fail] at h1 <;> subst h1
    case vslc =>
      simp only [VSim] at h0 ⊢
      obtain ⟨_, a, m, hv, hm, hw⟩ := h0
      exact ⟨(fun i e => by cases e), a, m, hv, hm, view_bx hs hb hw⟩
    all_goals exact VSim.plain rfl h0

theorem snapB_sim (hs : HSim w0 X h c) {b id0 : Nat} {cs0 : List PV} (h0 : h id0 = some (.cells cs0)) (hf : c.φ id0 = .pointer (some ⟨b, 0, none⟩)) {p q : PV} {v : Value} (hv : VSim c p v) (hd : Does tm h (snapB p) q) : VSim (bxCx c.w b) q v := by
  have hb : ¬ c.pr b := (hs.lo id0 _ b h0 (by rw [hf]; rfl)).2
  unfold snapB at hd
  split at hd
  · simp only [does_ret] at hd
    subst hd
    simp only [VSim] at hv ⊢
    obtain ⟨_, a, m, hv, hm, hw⟩ := hv
    exact ⟨(fun i e => by cases e), a, m, hv, hm, view_bx hs hb hw⟩
  · rename_i id
    simp only [does_bind, does_blk] at hd
    obtain ⟨ob, rfl, hd⟩ := hd
    split at hd
    · rename_i e u xs hid
      simp only [does_ret] at hd
      subst hd
      obtain ⟨_, us, ho, hS⟩ := hs.blk id _ hid
      simp only [VSim] at hv ⊢
      obtain ⟨_, rfl, _⟩ := hv
      refine ⟨(fun i e => by cases e), ?_⟩
      rcases ho.2 with ⟨hv, hn⟩ | ⟨g, cap, cur, fz, hv, _, _, hn, _⟩
      · exact ⟨none, 0, by rw [hv, hn], by rw [hn]; exact Nat.le_refl _, fun hne => absurd (List.eq_nil_of_length_eq_zero hn) hne⟩
      · obtain ⟨_, _, _, ⟨_, hheap, _⟩, _, _, _, hc⟩ := ownsRow_cells ho (show blkOf (c.φ id) = some g by rw [hv]; rfl)
        refine ⟨_, cap, hv, hn, fun _ => ⟨g, 0, rfl, ⟨(Array.getElem?_eq_some_iff.1 hheap).1, fun e => ?_⟩, us, hc, hS⟩⟩
        subst e
        have := hs.inj id id0 _ _ g hid h0 (by rw [hv]; rfl) (by rw [hf]; rfl)
        subst this
        rw [h0] at hid
        cases hid
    · simp at hd
  · simp only [does_ret] at hd
    subst hd
    simpa only [VSim] using hv
  · rw [cond_eq_ite] at hd
    split at hd
    · rename_i hp
      simp only [does_ret] at hd
      subst hd
      exact VSim.plain hp hv
    · simp at hd

theorem snapBs_sim (hs : HSim w0 X h c) {b id0 : Nat} {cs0 : List PV} (h0 : h id0 = some (.cells cs0)) (hf : c.φ id0 = .pointer (some ⟨b, 0, none⟩)) : ∀ {ps qs : List PV} {us : List Value}, VSims c ps us → Does tm h (snapBs ps) qs → VSims (bxCx c.w b) qs us
  | [], qs, [], _, hd => by simp only [snapBs, does_ret] at hd; subst hd; simp [VSims]
  | [], _, _ :: _, hv, _ => by simp [VSims] at hv
  | _ :: _, _, [], hv, _ => by simp [VSims] at hv
  | p :: ps, qs, u :: us, hv, hd => by
    simp only [VSims] at hv
    simp only [snapBs, does_bind, does_ret] at hd
    obtain ⟨q, h1, qs', h2, rfl⟩ := hd
    simp only [VSims]
    exact ⟨snapB_sim hs h0 hf hv.1 h1, snapBs_sim hs h0 hf hv.2 h2⟩

theorem kept_sim {N : Nat → Prop} {c c' : Cx} (e : Ext N c c') : ∀ {out : List (Option PV)} {cs cs' : List PV} {us us' : List Value}, VSims c cs us → mergeC out cs = some cs' → Kept out us us' → VSims c' cs' us'
  | [], [], cs', [], us', _, hm, hk => by
    cases us' with
    | nil => simp only [mergeC, Option.some.injEq] at hm; subst hm; simp only [VSims]
    | cons _ _ => simp [Kept] at hk
  | [], [], _, _ :: _, _, h, _, _ => by simp [VSims] at h
  | [], _ :: _, _, _, _, _, hm, _ => by simp [mergeC] at hm
  | _ :: _, [], _, _, _, _, hm, _ => by simp [mergeC] at hm
  | _ :: _, _ :: _, _, [], _, h, _, _ => by simp [VSims] at h
  | o :: os, p :: ps, cs', u :: us, us', h, hm, hk => by
    cases us' with
    | nil => cases o <;> simp [Kept] at hk
    | cons u' us' =>
      simp only [VSims] at h
      simp only [mergeC] at hm
      split at hm
      · rename_i r hr
        cases o with
        | none =>
          simp only [Option.some.injEq] at hm
          subst hm
          simp only [Kept] at hk
          obtain ⟨rfl, hk⟩ := hk
          simp only [VSims]
          exact ⟨h.1.ext e, kept_sim e h.2 hr hk⟩
        | some q =>
          simp only [cond_eq_ite] at hm
          split at hm
          · simp only [Option.some.injEq] at hm
            subst hm
            simp only [Kept] at hk
            simp only [VSims]
            exact ⟨hk.1 _, kept_sim e h.2 hr hk.2⟩
          · cases hm
      · cases hm

theorem callB_good (hs : HSim w0 X h c) {M : BCon} {f : FuncId} (hM : BoxOK P f M) {args : List PV} {vs : Array Value} (ha : VSims c args vs.toList) {r : OR} (hd : Does tm h (callB M args) r)
    (o : Oper) (ac : Act) (K' : Act → World → Prop) (Q : Exit → Act → World → Prop) (hk : ∀ v c', Ext N c c' → VSim c' r.v v → HSim w0 X (updH h r.wr) c' → K' (ac.put o.dst v) c'.w) : o.upon P ac K' Q ((callFunc f vs).run P c.w) := by
  unfold callB at hd
  split at hd
  · rename_i id ps
    simp only [does_bind, does_blk] at hd
    obtain ⟨ob, hob, hd⟩ := hd
    split at hd
    · rename_i cs
      simp only [does_bind, does_lift] at hd
      obtain ⟨cs0, hcs0, ps', hps', t, ht, q, hq, cs', hm, hd⟩ := hd
      rw [cond_eq_ite] at hd
      split at hd
      · rename_i hfl
        simp only [does_ret] at hd
        subst hd
        have hid : h id = some (.cells cs) := hob
        obtain ⟨l, hvs⟩ : ∃ l, vs = l.toArray := ⟨vs.toList, by simp⟩
        subst hvs
        cases l with
        | nil => simp [VSims] at ha
        | cons v vs =>
          simp only [VSims, VSim] at ha
          obtain ⟨⟨hK, b, hf, rfl⟩, hps⟩ := ha
          obtain ⟨_, b', arr, e', hf', hheap, hsim⟩ := hs.blk id _ hid
          rw [hf] at hf'
          cases hf'
          have hbk : blkOf (c.φ id) = some b := by rw [hf]; rfl
          have hlo := hs.lo id _ b hid hbk
          refine hM c.w b arr e' cs0 ps' vs t q.1 q.2 hs.ivOK (fun n hn hq => by
            have h2 := hs.iv.2 n hn
            rcases hlo.1 with h1 | h1
            · omega
            · exact h2.2 (hq ▸ h1)) hheap (snapCells_bx hs hlo.2 hsim hcs0) ht (dt_get hq) hfl (snapBs_sim hs hid hf hps hps') o ac K' Q ?_
          rintro rv w' ⟨hr, ⟨arr', e2, hheap', hkept⟩, hold, hos, htape, hout, hsz⟩
          have hpr : ∀ n, c.pr n → n < c.w.heap.size ∧ w'.heap[n]? = c.w.heap[n]? := fun n hn => ⟨hs.prlt n hn, hold n (hs.prlt n hn) fun q' => hlo.2 (q' ▸ hn)⟩
          have e : ∀ N, Ext N c { c with w := w' } := fun N => ⟨fun n hn => ⟨hn, rfl⟩, fun n hn => .inl hn, fun n hn => ⟨hn, (hpr n hn).2⟩, rfl⟩
          refine hk rv { c with w := w' } (e N) (hr _) ?_
          have look : ∀ n b', updH h [(id, some (.cells cs'))] n = some b' → (n = id ∧ b' = .cells cs') ∨ (n ≠ id ∧ h n = some b') := fun n b' hn => by
            simp only [updH, cond_eq_ite, beq_iff_eq] at hn
            by_cases q' : n = id
            · rw [if_pos q'] at hn; exact .inl ⟨q', (Option.some.inj hn).symm⟩
            · rw [if_neg q'] at hn; exact .inr ⟨q', hn⟩
          have was : ∀ n b', updH h [(id, some (.cells cs'))] n = some b' → ∃ b'', h n = some b'' := fun n b' hn => by
            rcases look n b' hn with ⟨rfl, _⟩ | ⟨_, hn⟩
            · exact ⟨_, hid⟩
            · exact ⟨_, hn⟩
          refine ⟨fun n b' hn => ?_, fun n b' m hn hm => ?_, fun i j bi bj n hi hj hbi hbj => ?_, fun n hn hx => ?_, hos.trans hs.os, htape.trans hs.tape, hout.trans hs.output, Nat.le_trans hs.sz hsz, fun n hn => Nat.lt_of_lt_of_le (hs.prlt n hn) hsz, hs.iv⟩
          · rcases look n b' hn with ⟨rfl, rfl⟩ | ⟨q', hn⟩
            · exact ⟨hK, b, arr', e2, hf, hheap', kept_sim (e fun _ => True) hsim hm hkept⟩
            · have hk' := hs.blk n b' hn
              refine ⟨hk'.1, hk'.2.keep (e fun _ => True) hk'.1 fun m hm => hold m (hk'.2.lt hm) fun q2 => q' ?_⟩
              subst q2
              exact hs.inj n id b' _ m hn hid hm hbk
          · obtain ⟨b'', hn'⟩ := was n b' hn
            exact hs.lo n b'' m hn' hm
          · obtain ⟨_, hi'⟩ := was i bi hi
            obtain ⟨_, hj'⟩ := was j bj hj
            exact hs.inj i j _ _ n hi' hj' hbi hbj
          · have hlt : n < c.w.heap.size := Nat.lt_of_lt_of_le hn hs.sz
            refine (hold n hlt fun q' => ?_).trans (hs.fr n hn hx)
            subst q'
            rcases hlo.1 with h1 | h1
            · omega
            · exact hx h1
      · simp at hd
    · simp at hd
  · simp at hd

theorem backNs_sim {N : Nat → Prop} {c c' : Cx} (e : Ext N c c') {w : World} {args : List PV} {vs : Array Value} (ha : VSims c args vs.toList) : ∀ {cs qs : List PV} {us : List Value}, VSims (argCx w vs) cs us → Does tm h (backNs args cs) qs → VSims c' qs us
  | [], qs, [], _, hd => by simp only [backNs, does_ret] at hd; subst hd; simp [VSims]
  | [], _, _ :: _, hv, _ => by simp [VSims] at hv
  | _ :: _, _, [], hv, _ => by simp [VSims] at hv
  | p :: ps, qs, u :: us, hv, hd => by
    simp only [VSims] at hv
    simp only [backNs, does_bind, does_ret] at hd
    obtain ⟨q, h1, qs', h2, rfl⟩ := hd
    simp only [VSims]
    refine ⟨?_, backNs_sim e ha hv.2 h2⟩
    have h0 := hv.1
    unfold backN at h1
    split at h1
    · simp only [does_lift] at h1
      rename_i i _ _
      simp only [VSim] at h0
      obtain ⟨y, hy, hsim⟩ := ((VSims_iff c _ _).1 ha).get i h1
      have := h0.1 i rfl
      have hy' : vs[i]? = some y := by simpa using hy
      rw [show (argCx w vs).ar = vs from rfl, hy'] at this
      cases this
      exact hsim.ext e
    · rw [cond_eq_ite] at h1
      split at h1
      · rename_i hp
        simp only [does_ret] at h1
        subst h1
        exact VSim.plain hp h0
      · simp at h1

theorem callN_good (hs : HSim w0 X h c) {M : NCon} {f : FuncId} (hM : NewOK P f M) {idb : Nat} (hN : N idb) (hid : ¬ c.K idb) {args : List PV} {vs : Array Value} (ha : VSims c args vs.toList) {r : OR} (hd : Does tm h (callN M idb args) r)
    (o : Oper) (ac : Act) (K' : Act → World → Prop) (Q : Exit → Act → World → Prop) (hk : ∀ v c', Ext N c c' → VSim c' r.v v → HSim w0 X (updH h r.wr) c' → K' (ac.put o.dst v) c'.w) : o.upon P ac K' Q ((callFunc f vs).run P c.w) := by
  unfold callN at hd
  simp only [does_bind, does_lift, does_ret] at hd
  obtain ⟨az, has, cs, hcs, cs', hcs', rfl⟩ := hd
  have has' := snaps_sim (vs := vs) hs (i := 0) (fun j u hu => by rw [Nat.zero_add]; simpa using hu) ha has
  refine hM c.w az vs cs hs.ivOK hcs has' o ac K' Q ?_
  rintro v w' ⟨b, arr, e', rfl, hb, hheap, hsim, hold, hos, htape, hout, hsz⟩
  let c' : Cx := { w := w', pr := c.pr, φ := fun n => if n = idb then .pointer (some ⟨b, 0, none⟩) else c.φ n, K := fun n => c.K n ∨ n = idb, ar := c.ar }
  have hne : ∀ n, c.K n → n ≠ idb := fun n hn e => hid (e ▸ hn)
  have e : ∀ N, N idb → Ext N c c' := fun N hN => ⟨fun n hn => ⟨.inl hn, if_neg (hne n hn)⟩, fun n hn => hn.imp (fun a => a) (fun a => by rw [a]; exact hN), fun n hn => ⟨hn, hold n (hs.prlt n hn)⟩, rfl⟩
  have hφ : c'.φ idb = .pointer (some ⟨b, 0, none⟩) := if_pos rfl
  refine hk _ c' (e N hN) (by simp only [VSim]; exact ⟨.inr rfl, b, hφ, rfl⟩) ?_
  have look : ∀ n b', updH h [(idb, some (.cells cs'))] n = some b' → (n = idb ∧ b' = .cells cs') ∨ (n ≠ idb ∧ h n = some b') := fun n b' hn => by
    simp only [updH, cond_eq_ite, beq_iff_eq] at hn
    by_cases q : n = idb
    · rw [if_pos q] at hn; exact .inl ⟨q, (Option.some.inj hn).symm⟩
    · rw [if_neg q] at hn; exact .inr ⟨q, hn⟩
  refine ⟨fun n b' hn => ?_, fun n b' m hn hm => ?_, fun i j bi bj n hi hj hbi hbj => ?_, fun n hn hx => ?_, hos.trans hs.os, htape.trans hs.tape, hout.trans hs.output, Nat.le_trans hs.sz hsz, fun n hn => Nat.lt_of_lt_of_le (hs.prlt n hn) hsz, hs.iv⟩
  · rcases look n b' hn with ⟨rfl, rfl⟩ | ⟨q, hn⟩
    · exact ⟨.inr rfl, b, arr, e', hφ, hheap, backNs_sim (e (fun _ => True) trivial) ha hsim hcs'⟩
    · have hk := hs.blk n b' hn
      exact ⟨.inl hk.1, hk.2.keep (e (fun _ => True) trivial) hk.1 fun m hm => hold m (hk.2.lt hm)⟩
  · rcases look n b' hn with ⟨rfl, rfl⟩ | ⟨q, hn⟩
    · rw [hφ] at hm
      simp only [blkOf, Option.some.injEq] at hm
      subst hm
      exact ⟨.inl (Nat.le_trans hs.sz hb), fun hp => by have := hs.prlt _ hp; omega⟩
    · have hk := hs.blk n b' hn
      rw [((e (fun _ => True) trivial).ids n hk.1).2] at hm
      exact hs.lo n b' m hn hm
  · have key : ∀ i j bj, i = idb → updH h [(idb, some (.cells cs'))] j = some bj → blkOf (c'.φ i) = some n → blkOf (c'.φ j) = some n → i = j := fun i j bj hi hj hbi hbj => by
      subst hi
      rcases look j bj hj with ⟨rfl, rfl⟩ | ⟨q, hj⟩
      · rfl
      · have hk := hs.blk j bj hj
        rw [hφ] at hbi
        simp only [blkOf, Option.some.injEq] at hbi
        subst hbi
        rw [((e (fun _ => True) trivial).ids j hk.1).2] at hbj
        have := hk.2.lt hbj
        omega
    rcases look i bi hi with ⟨q, _⟩ | ⟨qi, hi'⟩
    · exact key i j bj q hj hbi hbj
    · rcases look j bj hj with ⟨q, _⟩ | ⟨qj, hj'⟩
      · exact (key j i bi q hi hbj hbi).symm
      · rw [((e (fun _ => True) trivial).ids i (hs.blk i bi hi').1).2] at hbi
        rw [((e (fun _ => True) trivial).ids j (hs.blk j bj hj').1).2] at hbj
        exact hs.inj i j bi bj n hi' hj' hbi hbj
  · exact (hold n (Nat.lt_of_lt_of_le hn hs.sz)).trans (hs.fr n hn hx)

end
end Go.Proofs.Ytilfdpllleninaa
