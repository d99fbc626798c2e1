/- The engine, part M: functions. -/
import Derived.Test.YtilfdpllleninaaEngL
namespace Go.Proofs.Ytilfdpllleninaa
set_option linter.unusedVariables false
set_option linter.unusedSimpArgs false

/-- A beginning of a slice, of a row. -/
def truncV (q : Option Nat) (v : Value) : Value := match q, v with
  | some n, .slice a _ m => .slice a n m
  | _, v => v
def truncB (q : Option Nat) (b : Blk) : Blk := match b with
  | .typed e c xs => match q with
    | some n => .typed e c (xs.take n)
    | none => .typed e c xs
  | b => b
def fstIn (id : Nat) : List (Nat × Option Nat) → Bool
  | [] => false
  | (x, _) :: r => Nat.beq id x || fstIn id r

theorem fstIn_iff {id : Nat} : ∀ {l : List (Nat × Option Nat)}, fstIn id l = true ↔ id ∈ l.map Prod.fst
  | [] => by simp [fstIn]
  | (x, q) :: r => by
    simp only [fstIn, Bool.or_eq_true, fstIn_iff (l := r), List.map_cons, List.mem_cons]
    exact or_congr ⟨Nat.eq_of_beq_eq_true, fun h => by rw [h]; exact Nat.beq_refl x⟩ Iff.rfl

/-- A result in the words of a contract: new slices by their place in a list. 'ids': the call's own numbers of those met so far; with a number: of the row's beginning alone. -/
def retC (hp : Nat → Option Blk) (ids : List (Nat × Option Nat)) (v : PV) : Option (PV × List (Nat × Option Nat)) :=
  match v with
  | .own id => match hp id with
    | some (.typed _ _ _) => bif fstIn id ids then none else some (.own ids.length, ids ++ [(id, none)])
    | _ => none
  | .osub id sz lo n => match hp id with
    | some (.typed _ c _) => bif Nat.beq lo 0 && !fstIn id ids then some (.own ids.length, ids ++ [(id, some n)]) else none
    | _ => none
  | .vslc (i + 1) c xs => some (.vslc (i + 1) c xs, ids)
  | .boolK b => some (.bool b, ids)
  | .agg cs => bif scalars cs then some (.agg cs, ids) else none
  | v => bif v.plain then some (v, ids) else none

def retCs (hp : Nat → Option Blk) : List (Nat × Option Nat) → List PV → Option (List PV × List (Nat × Option Nat))
  | ids, [] => some ([], ids)
  | ids, v :: vs => match retC hp ids v with
    | none => none
    | some (w, ids') => match retCs hp ids' vs with
      | none => none
      | some (ws, ids'') => some (w :: ws, ids'')

def blksOf (hp : Nat → Option Blk) : List (Nat × Option Nat) → Option (List Blk)
  | [] => some []
  | (id, q) :: ids => match hp id, blksOf hp ids with
    | some b, some bs => some (truncB q b :: bs)
    | _, _ => none

/-- The values of a function's results. -/
def resultsR (T : TT) (S : St) : List ResultVar → Option (List PV)
  | [] => some []
  | .tmp t :: rs => match resultsR T S rs with
    | some vs => some (S.tm t :: vs)
    | none => none
  | .cell p t :: rs =>
    match T t, S.tm p with
    | some i, .ptr id j => match S.hp id with
      | some (.cells cs) => match part i cs j, resultsR T S rs with
        | some v, some vs => some (v :: vs)
        | _, _ => none
      | _ => none
    | _, _ => none

def retOf (T : TT) (S : St) (rs : List ResultVar) : Option Ret :=
  match resultsR T S rs with
  | none => none
  | some vs => match retCs S.hp [] vs with
    | none => none
    | some (ws, ids) => match blksOf S.hp ids with
      | none => none
      | some bl => match ws with
        | [w] => some ⟨w, bl⟩
        | ws => some ⟨.tup ws, bl⟩

def start (args : List PV) : St := { tm := fun t => (lget args t).getD .junk, hp := fun _ => none, nx := 0 }

def evalF (E : Env) (fuel : Nat) (x : Code) (rs : List ResultVar) (args : List PV) (ds : Hs) : Option (Ret × Conds) :=
  match evalC E fuel x (start args) ds with
  | some (.normal, S, _, cs) => (retOf E.T S rs).map fun r => (r, cs)
  | some (.ret, S, _, cs) => (retOf E.T S rs).map fun r => (r, cs)
  | _ => none

def met : Conds → List Bool
  | [] => []
  | (a, _) :: r => a :: met r

def said : Conds → List Bool
  | [] => []
  | (_, (h, _)) :: r => h :: said r

theorem allEq_of : ∀ {cs : Conds}, met cs = said cs → Told cs → AllEq cs
  | [], _, _ => trivial
  | (a, (h, d)) :: r, e, t => by
    simp only [met, said, List.cons.injEq] at e
    exact ⟨e.1.trans (t a h d (by simp)), allEq_of e.2 fun a' h' d' hm => t a' h' d' (by simp [hm])⟩

/-- Does the evaluator come to an end, to this answer, with the conditions that were told? -/
def Gives (E : Env) (fuel : Nat) (x : Code) (rs : List ResultVar) (args : List PV) (ds : Hs) (r : Ret) : Prop :=
  (evalF E fuel x rs args ds).map (fun p => (p.1, met p.2)) = some (r, ((evalF E fuel x rs args ds).map fun p => said p.2).getD [])

theorem Gives.get {E : Env} {fuel : Nat} {x : Code} {rs : List ResultVar} {args : List PV} {ds : Hs} {r : Ret} (h : Gives E fuel x rs args ds r) (ha : AllH ds) : ∃ cs, evalF E fuel x rs args ds = some (r, cs) ∧ AllEq cs := by
  unfold Gives at h
  cases he : evalF E fuel x rs args ds with
  | none => rw [he] at h; simp at h
  | some p =>
    obtain ⟨r', cs⟩ := p
    rw [he] at h
    simp only [Option.map_some, Option.getD_some, Option.some.injEq, Prod.mk.injEq] at h
    obtain ⟨rfl, h2⟩ := h
    refine ⟨cs, rfl, allEq_of h2 ?_⟩
    unfold evalF at he
    split at he
    · rename_i S ds' cs' hev
      cases hret : retOf E.T S rs with
      | none => rw [hret] at he; cases he
      | some r' => rw [hret] at he; cases he; exact (evalC_told _ _ _ _ _ _ _ _ hev ha).1
    · rename_i S ds' cs' hev
      cases hret : retOf E.T S rs with
      | none => rw [hret] at he; cases he
      | some r' => rw [hret] at he; cases he; exact (evalC_told _ _ _ _ _ _ _ _ hev ha).1
    · cases he

theorem allH_nil : AllH [] := fun _ _ h => by cases h
theorem allH_none {ds : Hs} (h : AllH ds) : AllH (none :: ds) := fun a b hm => h a b (by simpa using hm)
theorem allH_cons {ds : Hs} {a b : Bool} (e : a = b) (h : AllH ds) : AllH (some (a, b) :: ds) := fun x y hm => by
  rcases List.mem_cons.1 hm with hm | hm
  · simp only [Option.some.injEq, Prod.mk.injEq] at hm; rw [hm.1, hm.2]; exact e
  · exact h x y hm

section
variable {P : Program} {w0 : World} {X : Nat → Prop} {ar : Array Value} {n : Nat} {S : St} {c : Cx} {a : Act}

theorem getD_lget (l : List PV) (t : Nat) : (lget l t).getD .junk = l.getD t .junk := by rw [lget_eq, List.getD_eq_getElem?_getD]

theorem start_sim {w : World} {args : List PV} {vs : Array Value} (hiv : IvOK w) (hv : VSims (argCx w vs) args vs.toList) (hn : vs.size ≤ n) :
    Sim w (fun _ => False) vs n (start args) (argCx w vs) { tmps := vs ++ Array.replicate (n - vs.size) undef, defers := [] } := by
  refine ⟨rfl, fun t => ?_, by simp; omega, rfl, ⟨fun id b h => by simp [start] at h, fun id b n h => by simp [start] at h, fun i j bi bj n h => by simp [start] at h, fun n _ _ => rfl, rfl, rfl, rfl, Nat.le_refl _, fun n h => h, hiv.1, fun n hn => ⟨hiv.2 n hn, fun e => e⟩⟩, fun id h => h.elim, fun i p h => by simp [start, lget] at h⟩
  have h2 := (VSims_iff _ _ _).1 hv
  have hl := h2.length
  show VSim (argCx w vs) ((lget args t).getD .junk) _
  cases hg : lget args t with
  | none => simp [VSim]
  | some p =>
    obtain ⟨y, hy, hs⟩ := h2.get t hg
    have hlt : t < vs.size := by have := (List.getElem?_eq_some_iff.1 hy).1; simpa using this
    have : (vs ++ Array.replicate (n - vs.size) undef).getD t undef = y := by
      have hy' : vs[t]? = some y := by simpa using hy
      simp [Array.getElem?_append_left hlt, hy']
    rw [this]
    exact hs

theorem run_cell {T : TT} (hT : TTOK P T) (hs : Sim w0 X ar n S c a) {p t : Nat} {i : TI} (hi : T t = some i) {id j : Nat} (hp : S.tm p = .ptr id j) {cs : List PV} (hb : S.hp id = some (.cells cs)) {v : PV} (hv : part i cs j = some v) :
    ∃ x, (do let ad ← asAddr (a.tmps.getD p undef); loadVar t ad : Sem Value).run P c.w = .ok x c.w ∧ VSim c v x := by
  have h1 := hs.ht p
  rw [hp] at h1
  simp only [VSim] at h1
  obtain ⟨_, b, hf, hx⟩ := h1
  obtain ⟨_, b', arr, e, hf', hheap, hsim⟩ := hs.hs.blk id _ hb
  rw [hf] at hf'
  cases hf'
  obtain ⟨x, hr, hv⟩ := run_loadVar (hT t i hi) (cellsAt_heap hheap) hsim hv
  rw [Nat.zero_add] at hr
  exact ⟨x, by simp only [hx, asAddr, Sem.run_bind, Sem.run_pure, Result.andThen_ok]; exact hr, hv⟩

def resOf (tmps : Array Value) (x : ResultVar) : Sem Value :=
  match x with
  | .tmp t => pure (tmps.getD t undef)
  | .cell p t => do loadVar t (← asAddr (tmps.getD p undef))

theorem results_eq (fn : Func) (tmps : Array Value) : results fn tmps = (do let vs ← fn.results.mapM (resOf tmps); pure (if h : vs.size = 1 then vs[0] else .tuple vs)) := rfl

theorem results_list {T : TT} (hT : TTOK P T) (hs : Sim w0 X ar n S c a) : ∀ (rs : List ResultVar) {vs : List PV}, resultsR T S rs = some vs →
    ∃ xs, (rs.mapM (resOf a.tmps)).run P c.w = .ok xs c.w ∧ VSims c vs xs
  | [], vs, h => by simp only [resultsR, Option.some.injEq] at h; subst h; exact ⟨[], by simp, by simp [VSims]⟩
  | .tmp t :: rs, vs, h => by
    simp only [resultsR] at h
    split at h
    · rename_i vs' h'
      cases h
      obtain ⟨xs, hr, hv⟩ := results_list hT hs rs h'
      refine ⟨a.tmps.getD t undef :: xs, ?_, by simp only [VSims]; exact ⟨hs.ht t, hv⟩⟩
      simp only [List.mapM_cons, resOf, Sem.run_bind, Sem.run_pure, Result.andThen_ok, hr]
    · cases h
  | .cell p t :: rs, vs, h => by
    simp only [resultsR] at h
    split at h
    · rename_i i id j hi hp
      split at h
      · rename_i cs hb
        split at h
        · rename_i v vs' hv h'
          cases h
          obtain ⟨xs, hr, hvs⟩ := results_list hT hs rs h'
          obtain ⟨x, hx, hvx⟩ := run_cell hT hs hi hp hb hv
          refine ⟨x :: xs, ?_, by simp only [VSims]; exact ⟨hvx, hvs⟩⟩
          have hx' : (resOf a.tmps (.cell p t)).run P c.w = .ok x c.w := hx
          simp only [List.mapM_cons, Sem.run_bind, Sem.run_pure, hx', hr, Result.andThen_ok]
        · cases h
      · cases h
    · cases h

theorem retCs_sim {pr : Nat → Prop} {φ : Nat → Value} {hp : Nat → Option Blk} {r : Ret} {vs : Array Value} (hpr : ∀ n, c.pr n → pr n) (har : c.ar = vs) {fin : List (Nat × Option Nat)} (hφ : ∀ k id q, fin[k]? = some (id, q) → φ k = truncV q (c.φ id)) (hlen : fin.length = r.bl.length) :
    ∀ {ps qs : List PV} {us : List Value} {ids ids' : List (Nat × Option Nat)}, retCs hp ids ps = some (qs, ids') → (∃ more, ids' ++ more = fin) → VSims c ps us → VSims (retCx c.w pr φ r vs) qs us := by
  have one : ∀ {p q : PV} {u : Value} {ids ids' : List (Nat × Option Nat)}, retC hp ids p = some (q, ids') → (∃ more, ids' ++ more = fin) → VSim c p u → VSim (retCx c.w pr φ r vs) q u := by
    intro p q u ids ids' he hm hv
    unfold retC at he
    split at he
    · rename_i id
      split at he
      · rename_i e t xs hb
        rw [cond_eq_ite] at he
        split at he
        · cases he
        · cases he
          obtain ⟨more, hm⟩ := hm
          have hk : fin[ids.length]? = some (id, none) := by rw [← hm]; simp
          simp only [VSim] at hv ⊢
          obtain ⟨_, rfl, hsl⟩ := hv
          refine ⟨?_, ((hφ _ _ _ hk).trans rfl).symm, hsl⟩
          show ids.length < r.bl.length
          have := (List.getElem?_eq_some_iff.1 hk).1
          omega
      · cases he
    · rename_i id sz lo n
      split at he
      · rename_i e t xs hb
        rw [cond_eq_ite] at he
        split at he
        · rename_i hc
          rw [and_true_iff] at hc
          have h0 := Nat.eq_of_beq_eq_true hc.1
          cases he
          obtain ⟨more, hm⟩ := hm
          have hk : fin[ids.length]? = some (id, some n) := by rw [← hm]; simp
          simp only [VSim] at hv ⊢
          obtain ⟨_, a, m, rfl, _, _, a', l', m', hf, hle, h00⟩ := hv
          obtain ⟨rfl, rfl⟩ := h00 h0
          refine ⟨?_, ?_, _, _, _, rfl⟩
          · show ids.length < r.bl.length
            have := (List.getElem?_eq_some_iff.1 hk).1
            omega
          · show _ = φ ids.length
            rw [hφ _ _ _ hk, hf]
            rfl
        · cases he
      · cases he
    · cases he
      simp only [VSim] at hv ⊢
      obtain ⟨ht, a, m, hv, hm', hw⟩ := hv
      refine ⟨fun i h => by have := ht i h; rw [har] at this; exact this, a, m, hv, hm', fun hne => ?_⟩
      obtain ⟨b, off, ha, hb, ws, hc, hS⟩ := hw hne
      exact ⟨b, off, ha, hpr b hb, ws, hc, hS⟩
    · cases he
      simp only [VSim] at hv ⊢
      exact hv
    · rw [cond_eq_ite] at he
      split at he
      · rename_i hsc
        cases he
        simp only [VSim] at hv ⊢
        obtain ⟨ws, hv, hS⟩ := hv
        exact ⟨ws, hv, VSims.of_S (SSims_of hS hsc)⟩
      · cases he
    · rw [cond_eq_ite] at he
      split at he
      · rename_i hpl
        cases he
        exact VSim.plain hpl hv
      · cases he
  intro ps
  induction ps with
  | nil =>
    intro qs us ids ids' he _ hv
    simp only [retCs, Option.some.injEq, Prod.mk.injEq] at he
    obtain ⟨rfl, _⟩ := he
    cases us <;> simp_all [VSims]
  | cons p ps ih =>
    intro qs us ids ids' he hm hv
    cases us with
    | nil => simp [VSims] at hv
    | cons u us =>
      simp only [VSims] at hv
      simp only [retCs] at he
      split at he
      · cases he
      · rename_i w ids1 h1
        split at he
        · cases he
        · rename_i ws ids2 h2
          cases he
          simp only [VSims]
          have ext : ∀ {ps qs : List PV} {ids ids' : List (Nat × Option Nat)}, retCs hp ids ps = some (qs, ids') → ∃ more, ids ++ more = ids' := by
            intro ps
            induction ps with
            | nil => intro qs ids ids' h; simp only [retCs, Option.some.injEq, Prod.mk.injEq] at h; exact ⟨[], by simp [h.2]⟩
            | cons p ps ih =>
              intro qs ids ids' h
              simp only [retCs] at h
              split at h
              · cases h
              · rename_i w ids1 h1
                split at h
                · cases h
                · rename_i ws ids2 h2
                  cases h
                  obtain ⟨m2, hm2⟩ := ih h2
                  have : ∃ m1, ids ++ m1 = ids1 := by
                    unfold retC at h1
                    split at h1
                    · split at h1
                      · rw [cond_eq_ite] at h1; split at h1
                        · cases h1
                        · cases h1; exact ⟨_, rfl⟩
                      · cases h1
                    · split at h1
                      · rw [cond_eq_ite] at h1; split at h1
                        · cases h1; exact ⟨_, rfl⟩
                        · cases h1
                      · cases h1
                    · cases h1; exact ⟨[], by simp⟩
                    · cases h1; exact ⟨[], by simp⟩
                    · rw [cond_eq_ite] at h1; split at h1
                      · cases h1; exact ⟨[], by simp⟩
                      · cases h1
                    · rw [cond_eq_ite] at h1; split at h1
                      · cases h1; exact ⟨[], by simp⟩
                      · cases h1
                  obtain ⟨m1, rfl⟩ := this
                  exact ⟨m1 ++ m2, by rw [← List.append_assoc]; exact hm2⟩
          obtain ⟨m2, hm2⟩ := ext h2
          obtain ⟨more, hmore⟩ := hm
          exact ⟨one h1 ⟨m2 ++ more, by rw [← List.append_assoc, hm2]; exact hmore⟩ hv.1, ih h2 ⟨more, hmore⟩ hv.2⟩

theorem retCs_ids {hp : Nat → Option Blk} : ∀ {ps qs : List PV} {ids ids' : List (Nat × Option Nat)}, retCs hp ids ps = some (qs, ids') → (ids.map Prod.fst).Nodup → (ids'.map Prod.fst).Nodup := by
  intro ps
  induction ps with
  | nil => intro qs ids ids' h hn; simp only [retCs, Option.some.injEq, Prod.mk.injEq] at h; rw [← h.2]; exact hn
  | cons p ps ih =>
    intro qs ids ids' h hn
    simp only [retCs] at h
    split at h
    · cases h
    · rename_i w ids1 h1
      split at h
      · cases h
      · rename_i ws ids2 h2
        cases h
        refine ih h2 ?_
        unfold retC at h1
        split at h1
        · split at h1
          · rw [cond_eq_ite] at h1; split at h1
            · cases h1
            · rename_i hni
              cases h1
              rw [fstIn_iff] at hni
              rw [List.map_append, List.nodup_append]
              exact ⟨hn, by simp, fun a ha b hb => by simp at hb; subst hb; rintro rfl; exact hni ha⟩
          · cases h1
        · split at h1
          · rw [cond_eq_ite] at h1; split at h1
            · rename_i hc
              rw [and_true_iff, Bool.not_eq_true', Bool.eq_false_iff] at hc
              have hni := hc.2
              cases h1
              rw [ne_eq, fstIn_iff] at hni
              rw [List.map_append, List.nodup_append]
              exact ⟨hn, by simp, fun a ha b hb => by simp at hb; subst hb; rintro rfl; exact hni ha⟩
            · cases h1
          · cases h1
        · cases h1; exact hn
        · cases h1; exact hn
        · rw [cond_eq_ite] at h1; split at h1
          · cases h1; exact hn
          · cases h1
        · rw [cond_eq_ite] at h1; split at h1
          · cases h1; exact hn
          · cases h1

theorem blksOf_get {hp : Nat → Option Blk} : ∀ {ids : List (Nat × Option Nat)} {bl : List Blk}, blksOf hp ids = some bl → bl.length = ids.length ∧ ∀ k b, lget bl k = some b → ∃ id q b0, ids[k]? = some (id, q) ∧ hp id = some b0 ∧ b = truncB q b0
  | [], bl, h => by simp only [blksOf, Option.some.injEq] at h; subst h; exact ⟨rfl, fun k b h => by simp [lget] at h⟩
  | (id, q) :: ids, bl, h => by
    simp only [blksOf] at h
    split at h
    · rename_i b bs h1 h2
      cases h
      obtain ⟨hl, hg⟩ := blksOf_get h2
      refine ⟨by simp [hl], fun k b' hk => ?_⟩
      cases k with
      | zero => simp only [lget, Option.some.injEq] at hk; subst hk; exact ⟨id, q, b, rfl, h1, rfl⟩
      | succ k => obtain ⟨i, q', b0, hi, hb, he⟩ := hg k b' (by simpa [lget] using hk); exact ⟨i, q', b0, by simpa using hi, hb, he⟩
    · cases h

theorem blkOf_trunc {q : Option Nat} {v : Value} : blkOf (truncV q v) = blkOf v := by
  unfold truncV
  split
  · rename_i a _ _
    cases a <;> rfl
  · rfl

theorem ownsG_trunc {w : World} {e : TypeId} {sz : Nat} {v : Value} {len : Nat} {us : List Value} (ho : OwnsG w e sz v len us) {a : Option Addr} {l m n : Nat} (hv : v = .slice a l m) (hn : n ≤ l) : n ≤ len ∧ OwnsG w e sz (truncV (some n) v) n (us.take (n * sz)) := by
  rcases ho.2 with ⟨h1, h2⟩ | ⟨g, cap, cur, fz, h1, h2, h3, h4, h5, h6, h7⟩
  · rw [h1] at hv
    cases hv
    have : n = 0 := by omega
    subst this
    refine ⟨Nat.zero_le _, by simp, .inl ⟨by rw [h1]; rfl, rfl⟩⟩
  · have hll : l = len := by have := hv.symm.trans h1; cases this; rfl
    subst hll
    have hl : n * sz ≤ l * sz := Nat.mul_le_mul_right _ hn
    refine ⟨hn, by rw [List.length_take, ho.1]; omega, .inr ⟨g, cap, cur, fz, by rw [h1]; rfl, h2, h3, by omega, h5, h6, ?_⟩⟩
    rw [← h7, List.take_take, Nat.min_eq_left hl]

/-- Beginnings of rows are no longer than they. -/
theorem retCs_len {hp : Nat → Option Blk} : ∀ {ps qs : List PV} {us : List Value} {ids ids' : List (Nat × Option Nat)}, retCs hp ids ps = some (qs, ids') → VSims c ps us → (∀ id n, (id, some n) ∈ ids → ∃ a l m, c.φ id = .slice a l m ∧ n ≤ l) → ∀ id n, (id, some n) ∈ ids' → ∃ a l m, c.φ id = .slice a l m ∧ n ≤ l := by
  intro ps
  induction ps with
  | nil => intro qs us ids ids' h _ hi; simp only [retCs, Option.some.injEq, Prod.mk.injEq] at h; rw [← h.2]; exact hi
  | cons p ps ih =>
    intro qs us ids ids' h hv hi
    cases us with
    | nil => simp [VSims] at hv
    | cons u us =>
      simp only [VSims] at hv
      simp only [retCs] at h
      split at h
      · cases h
      · rename_i w ids1 h1
        split at h
        · cases h
        · rename_i ws ids2 h2
          cases h
          refine ih h2 hv.2 ?_
          unfold retC at h1
          split at h1
          · split at h1
            · rw [cond_eq_ite] at h1; split at h1
              · cases h1
              · cases h1
                intro id n hm
                rcases List.mem_append.1 hm with h' | h'
                · exact hi id n h'
                · simp at h'
            · cases h1
          · split at h1
            · rw [cond_eq_ite] at h1; split at h1
              · cases h1
                intro id n hm
                rcases List.mem_append.1 hm with h' | h'
                · exact hi id n h'
                · simp only [List.mem_singleton, Prod.mk.injEq, Option.some.injEq] at h'
                  obtain ⟨rfl, rfl⟩ := h'
                  have h3 := hv.1
                  simp only [VSim] at h3
                  obtain ⟨_, _, _, _, _, _, a', l', m', hf, hle, _⟩ := h3
                  exact ⟨a', l', m', hf, by omega⟩
              · cases h1
            · cases h1
          · cases h1; exact hi
          · cases h1; exact hi
          · rw [cond_eq_ite] at h1; split at h1
            · cases h1; exact hi
            · cases h1
          · rw [cond_eq_ite] at h1; split at h1
            · cases h1; exact hi
            · cases h1

/-- What a function answers is what its contract says. -/
theorem ret_sim {T : TT} (hT : TTOK P T) {w : World} {vs : Array Value} (hs : Sim w (fun _ => False) vs n S c a) {fn : Func} {r : Ret} (hr : retOf T S fn.results.toList = some r) :
    ∃ v, (results fn a.tmps).run P c.w = .ok v c.w ∧ RetSim w c.w vs r v := by
  unfold retOf at hr
  split at hr
  · cases hr
  · rename_i ps hps
    split at hr
    · cases hr
    · rename_i qs ids hqs
      split at hr
      · cases hr
      · rename_i bl hbl
        obtain ⟨hbll, hblg⟩ := blksOf_get hbl
        obtain ⟨xs, hxs, hsim⟩ := results_list hT hs fn.results.toList hps
        have hrun : (results fn a.tmps).run P c.w = .ok (if h : xs.toArray.size = 1 then xs.toArray[0] else .tuple xs.toArray) c.w := by
          rw [results_eq]
          simp only [Array.mapM_eq_mapM_toList, Sem.run_bind, Sem.run_map, hxs, Result.andThen_ok]
          rfl
        have hnd := retCs_ids hqs (by simp)
        have hrb : r.bl = bl := by split at hr <;> cases hr <;> rfl
        let φ : Nat → Value := fun k => truncV (ids.getD k (0, none)).2 (c.φ (ids.getD k (0, none)).1)
        have hφ : ∀ k id q, ids[k]? = some (id, q) → φ k = truncV q (c.φ id) := fun k id q h => by show truncV (ids.getD k (0, none)).2 (c.φ (ids.getD k (0, none)).1) = _; rw [List.getD_eq_getElem?_getD, h]; rfl
        have hlen := retCs_len hqs hsim (fun id n h => by simp at h)
        have hvals := retCs_sim (pr := c.pr) (φ := φ) (vs := vs) (r := r) (fun _ h => h) hs.ar' hφ (by rw [hrb, hbll]) hqs ⟨[], by simp⟩ hsim
        have hH : HSim w (fun _ => False) (lget r.bl) (retCx c.w c.pr φ r vs) := by
          rw [hrb]
          have idOf : ∀ k b, lget bl k = some b → ∃ id q b0, ids[k]? = some (id, q) ∧ S.hp id = some b0 ∧ b = truncB q b0 ∧ φ k = truncV q (c.φ id) := fun k b h => by
            obtain ⟨id, q, b0, h1, h2, h3⟩ := hblg k b h
            exact ⟨id, q, b0, h1, h2, h3, hφ k id q h1⟩
          have typ : ∀ id, id ∈ ids → ∃ e u xs, S.hp id.1 = some (.typed e u xs) := by
            have key : ∀ {ps qs : List PV} {ids ids' : List (Nat × Option Nat)}, retCs S.hp ids ps = some (qs, ids') → (∀ id, id ∈ ids → ∃ e u xs, S.hp id.1 = some (.typed e u xs)) → ∀ id, id ∈ ids' → ∃ e u xs, S.hp id.1 = some (.typed e u xs) := by
              intro ps
              induction ps with
              | nil => intro qs ids ids' h hi; simp only [retCs, Option.some.injEq, Prod.mk.injEq] at h; rw [← h.2]; exact hi
              | cons p ps ih =>
                intro qs ids ids' h hi
                simp only [retCs] at h
                split at h
                · cases h
                · rename_i w ids1 h1
                  split at h
                  · cases h
                  · rename_i ws ids2 h2
                    cases h
                    refine ih h2 ?_
                    unfold retC at h1
                    split at h1
                    · rename_i id
                      split at h1
                      · rename_i e u xs hb
                        rw [cond_eq_ite] at h1; split at h1
                        · cases h1
                        · cases h1
                          intro id' hid'
                          rcases List.mem_append.1 hid' with h' | h'
                          · exact hi _ h'
                          · simp at h'; subst h'; exact ⟨e, u, xs, hb⟩
                      · cases h1
                    · rename_i id _ _ _
                      split at h1
                      · rename_i e u xs hb
                        rw [cond_eq_ite] at h1; split at h1
                        · cases h1
                          intro id' hid'
                          rcases List.mem_append.1 hid' with h' | h'
                          · exact hi _ h'
                          · simp at h'; subst h'; exact ⟨e, u, xs, hb⟩
                        · cases h1
                      · cases h1
                    · cases h1; exact hi
                    · cases h1; exact hi
                    · rw [cond_eq_ite] at h1; split at h1
                      · cases h1; exact hi
                      · cases h1
                    · rw [cond_eq_ite] at h1; split at h1
                      · cases h1; exact hi
                      · cases h1
            exact key hqs (fun id h => by simp at h)
          refine ⟨fun k b hk => ?_, fun k b m hk hm => ?_, fun i j bi bj m hi hj hbi hbj => ?_, hs.hs.fr, hs.hs.os, hs.hs.tape, hs.hs.output, hs.hs.sz, hs.hs.prlt, hs.hs.iv⟩
          · obtain ⟨id, q, b0, h1, h2, rfl, h3⟩ := idOf k b hk
            refine ⟨by show k < r.bl.length; rw [hrb]; exact lget_lt hk, ?_⟩
            obtain ⟨e, u, xs, ht⟩ := typ (id, q) (List.mem_of_getElem? h1)
            have ht : S.hp id = some (.typed e u xs) := ht
            rw [h2] at ht
            cases ht
            obtain ⟨_, us, ho, hS⟩ := hs.hs.blk id _ h2
            cases q with
            | none => exact ⟨us, by show OwnsG c.w e u.size (φ k) _ _; rw [h3]; exact ho, hS⟩
            | some n =>
              obtain ⟨a0, l0, m0, hf0, hn0⟩ := hlen id n (List.mem_of_getElem? h1)
              obtain ⟨g1, g2⟩ := ownsG_trunc ho hf0 hn0
              refine ⟨us.take (n * u.size), ?_, ?_⟩
              · show OwnsG c.w e u.size (φ k) (xs.take n).length _
                rw [h3, List.length_take, Nat.min_eq_left g1]
                exact g2
              · show All2 SSim (flat u (xs.take n)) _
                rw [flat_take]
                exact hS.take _
          · obtain ⟨id, q, b0, h1, h2, rfl, h3⟩ := idOf k b hk
            have hm : blkOf (φ k) = some m := hm
            rw [h3, blkOf_trunc] at hm
            exact hs.hs.lo id b0 m h2 hm
          · obtain ⟨id, q, b0, h1, h2, rfl, h3⟩ := idOf i bi hi
            obtain ⟨id', q', b0', h1', h2', rfl, h3'⟩ := idOf j bj hj
            have hbi : blkOf (φ i) = some m := hbi
            have hbj : blkOf (φ j) = some m := hbj
            rw [h3, blkOf_trunc] at hbi
            rw [h3', blkOf_trunc] at hbj
            have := hs.hs.inj id id' b0 b0' m h2 h2' hbi hbj
            subst this
            have e1 : (ids.map Prod.fst)[i]? = some id := by rw [List.getElem?_map, h1]; rfl
            have e2 : (ids.map Prod.fst)[j]? = some id := by rw [List.getElem?_map, h1']; rfl
            exact (List.getElem?_inj (List.getElem?_eq_some_iff.1 e1).1 hnd).1 (e1.trans e2.symm)
        refine ⟨_, hrun, c.pr, φ, ?_, hH⟩
        split at hr
        · rename_i q
          cases hr
          cases xs with
          | nil => simp [VSims] at hvals
          | cons x xs =>
            cases xs with
            | cons y ys => simp [VSims] at hvals
            | nil =>
              simp only [VSims, and_true] at hvals
              simpa using hvals
        · rename_i hne
          cases hr
          have hl := ((VSims_iff _ _ _).1 hvals).length
          rw [dif_neg]
          · simp only [VSim]
            exact ⟨xs.toArray, rfl, by simpa using hvals⟩
          · intro h1
            have h1 : xs.length = 1 := by simpa using h1
            rw [h1] at hl
            obtain ⟨q, rfl⟩ := List.length_eq_one_iff.1 hl
            exact hne q rfl

theorem callsTo_of {f : FuncId} {fn : Func} {x : Code} (hf : P.funcs[f]? = some fn) (hb : fn.body = some x) (hn : (fn.name == "runtime.NumGoroutine") = false) {vs : Array Value} {w : World} {R : Value → World → Prop}
    (h : Calls P f vs w fun e w' => match e with | .returned v => R v w' | _ => False) : CallsTo P f vs w R := by
  intro o a K' Q hk
  have hrun : (callFunc f vs).run P w = .ok (.enter f vs) w := by
    have hn' : ¬ fn.name = "runtime.NumGoroutine" := by simpa using hn
    simp [callFunc, hf, hn', hb]
  rw [hrun, Oper.upon_enter]
  refine Calls.mono h fun e w' he => ?_
  cases e with
  | returned v => exact hk v w' he
  | panicked c => exact he.elim
  | outgrown => exact he.elim

/-- A FUNCTION's CONTRACT, from the evaluator. -/
theorem fn_ok {E : Env} (hE : EnvOK P E) {f : FuncId} {fn : Func} {x : Code} {rs : Array ResultVar} (hf : P.funcs[f]? = some fn) (hb : fn.body = some x) (hname : (fn.name == "runtime.NumGoroutine") = false) (hn : fn.ntmps = E.n) (hrs : fn.results = rs) (hl : LoopsOK P E x) {F : Fun} (fuel : Nat)
    (h : ∀ args r, F args = some r → args.length ≤ E.n ∧ ∃ ds, AllH ds ∧ Gives E fuel x rs.toList args ds r) : FunOK P f F := by
  intro w args vs r hiv hF hv
  obtain ⟨hlen, ds, hall, hg⟩ := h args r hF
  obtain ⟨cs, he, hc⟩ := hg.get hall
  have hvl : vs.size = args.length := by have := ((VSims_iff _ _ _).1 hv).length; simpa using this.symm
  refine callsTo_of hf hb hname (calls_of_wp hf hb ?_)
  rw [hn]
  have hst := start_sim (n := E.n) hiv hv (by omega)
  unfold evalF at he
  have fin : ∀ {S : St} {ex : Ex} {ds' : Hs}, (ex = .normal ∨ ex = .ret) → evalC E fuel x (start args) ds = some (ex, S, ds', cs) → retOf E.T S rs.toList = some r → x.wp P (bodyPost P fn fun e w' => match e with | .returned v => RetSim w w' vs r v | _ => False) { tmps := vs ++ Array.replicate (E.n - vs.size) undef, defers := [] } w := by
    intro S ex ds' hex hev hret
    refine (evalC_sound hE fuel x (start args) ds ex S ds' cs hl hev hc).1 w (fun _ => False) vs (argCx w vs) _ hst _ fun c' a' hs' => ?_
    obtain ⟨v, hr, hR⟩ := ret_sim hE.T hs' (fn := fn) (r := r) (by rw [hrs]; exact hret)
    rcases hex with rfl | rfl
    · exact ⟨hs'.df, v, hr, hR⟩
    · exact ⟨hs'.df, v, hr, hR⟩
  split at he
  · rename_i S ds1 cs1 hev
    cases hret : retOf E.T S rs.toList with
    | none => rw [hret] at he; cases he
    | some r' => rw [hret] at he; cases he; exact fin (.inl rfl) hev hret
  · rename_i S ds1 cs1 hev
    cases hret : retOf E.T S rs.toList with
    | none => rw [hret] at he; cases he
    | some r' => rw [hret] at he; cases he; exact fin (.inr rfl) hev hret
  · cases he

end
end Go.Proofs.Ytilfdpllleninaa
