/- The engine, part O: loops whose rounds are not counted. -/
import Derived.Test.YtilfdpllleninaaEngN
namespace Go.Proofs.Ytilfdpllleninaa
set_option linter.unusedVariables false
set_option linter.unusedSimpArgs false

/-! ## Other numbers for blocks -/

mutual
def PV.ren (f : Nat → Nat) : PV → PV
  | .ptr id j => .ptr (f id) j
  | .eptr id sz i j => .eptr (f id) sz i j
  | .vcell cs j => .vcell (rens f cs) j
  | .lst cs => .lst (rens f cs)
  | .agg cs => .agg (rens f cs)
  | .tup cs => .tup (rens f cs)
  | .own id => .own (f id)
  | .osub id sz lo n => .osub (f id) sz lo n
  | .asl id n => .asl (f id) n
  | .func fn a b => .func fn (rens f a) (rens f b)
  | .iface t v => .iface t (v.ren f)
  | v => v
def rens (f : Nat → Nat) : List PV → List PV
  | [] => []
  | v :: vs => v.ren f :: rens f vs
end

theorem rens_length {f : Nat → Nat} : ∀ cs : List PV, (rens f cs).length = cs.length
  | [] => rfl
  | _ :: cs => by simp only [rens, List.length_cons, rens_length cs]

def Blk.ren (f : Nat → Nat) : Blk → Blk
  | .cells cs => .cells (rens f cs)
  | b => b

def renH (f : Nat → Nat) : List (Option Blk) → List (Option Blk)
  | [] => []
  | some b :: r => some (b.ren f) :: renH f r
  | none :: r => none :: renH f r

def renCx (f : Nat → Nat) (c : Cx) : Cx := { c with φ := fun i => c.φ (f i), K := fun i => c.K (f i) }

mutual
theorem ren_sim {f : Nat → Nat} {c : Cx} : ∀ {p : PV} {v : Value}, VSim c (p.ren f) v → VSim (renCx f c) p v
  | .bool _, _, h => by simp only [PV.ren, VSim] at h ⊢; exact h
  | .boolK _, _, h => by simp only [PV.ren, VSim] at h ⊢; exact h
  | .int _ _, _, h => by simp only [PV.ren, VSim] at h ⊢; exact h
  | .flt _ _, _, h => by simp only [PV.ren, VSim] at h ⊢; exact h
  | .cplx _ _ _, _, h => by simp only [PV.ren, VSim] at h ⊢; exact h
  | .str _, _, h => by simp only [PV.ren, VSim] at h ⊢; exact h
  | .nilp, _, h => by simp only [PV.ren, VSim] at h ⊢; exact h
  | .ptr id j, v, h => by simp only [PV.ren, VSim] at h ⊢; exact h
  | .eptr id sz i j, v, h => by simp only [PV.ren, VSim] at h ⊢; exact h
  | .vcell cs j, v, h => by
    simp only [PV.ren, VSim] at h ⊢
    obtain ⟨b, off, vs, hv, hb, hc, hs⟩ := h
    exact ⟨b, off, vs, hv, hb, hc, rens_sim hs⟩
  | .agg cs, v, h => by
    simp only [PV.ren, VSim] at h ⊢
    obtain ⟨vs, hv, hs⟩ := h
    exact ⟨vs, hv, rens_sim hs⟩
  | .tup cs, v, h => by
    simp only [PV.ren, VSim] at h ⊢
    obtain ⟨vs, hv, hs⟩ := h
    exact ⟨vs, hv, rens_sim hs⟩
  | .nils, _, h => by simp only [PV.ren, VSim] at h ⊢; exact h
  | .own id, v, h => by simp only [PV.ren, VSim] at h ⊢; exact h
  | .osub id sz lo n, v, h => by simp only [PV.ren, VSim] at h ⊢; exact h
  | .asl id n, v, h => by simp only [PV.ren, VSim] at h ⊢; exact h
  | .vslc tag u xs, v, h => by simp only [PV.ren, VSim] at h ⊢; exact h
  | .func fn a b, v, h => by
    simp only [PV.ren, VSim] at h ⊢
    obtain ⟨f', c', hv, h1, h2⟩ := h
    exact ⟨f', c', hv, rens_sim h1, rens_sim h2⟩
  | .nilf, _, h => by simp only [PV.ren, VSim] at h ⊢; exact h
  | .iface t p, v, h => by
    simp only [PV.ren, VSim] at h ⊢
    obtain ⟨x, hv, h1⟩ := h
    exact ⟨x, hv, ren_sim h1⟩
  | .nili, _, h => by simp only [PV.ren, VSim] at h ⊢; exact h
  | .nanb, _, h => by simp only [PV.ren, VSim] at h ⊢; exact h
  | .lst cs, v, h => by
    simp only [PV.ren, VSim] at h ⊢
    obtain ⟨b, vs, hv, hb, hc, hs⟩ := h
    have hl : (rens f cs).length = cs.length := rens_length cs
    rw [hl] at hv
    exact ⟨b, vs, hv, hb, hc, rens_sim hs⟩
  | .junk, _, _ => by simp only [VSim]
theorem rens_sim {f : Nat → Nat} {c : Cx} : ∀ {ps : List PV} {vs : List Value}, VSims c (rens f ps) vs → VSims (renCx f c) ps vs
  | [], [], _ => by simp only [VSims]
  | [], _ :: _, h => by simp [rens, VSims] at h
  | _ :: _, [], h => by simp [rens, VSims] at h
  | p :: ps, v :: vs, h => by
    simp only [rens, VSims] at h ⊢
    exact ⟨ren_sim h.1, rens_sim h.2⟩
end

theorem ren_bsim {f : Nat → Nat} {c : Cx} {id : Nat} {b : Blk} (h : BSim c (f id) (b.ren f)) : BSim (renCx f c) id b := by
  cases b with
  | cells cs =>
    obtain ⟨b, arr, e, h1, h2, h3⟩ := h
    exact ⟨b, arr, e, h1, h2, rens_sim h3⟩
  | typed e u xs => exact h

/-! ## States by lists -/

def LSt (tl : List PV) (hl : List (Option Blk)) (gl : List PV := []) : St := ⟨fun t => (lget tl t).getD .junk, fun i => (lget hl i).getD none, hl.length, gl⟩

def gtm (gs : List PV) : Nat → PV := fun t => (lget gs t).getD .junk

/-- What stands at the places that are kept. -/
def keepT (tm : Nat → PV) : Nat → List PV → List PV
  | _, [] => []
  | t, p :: r => match p with
    | .junk => .junk :: keepT tm (t + 1) r
    | _ => (tm t).unK :: keepT tm (t + 1) r

def keepH (hp : Nat → Option Blk) : List Nat → List (Option Blk) → List (Option Blk)
  | _, [] => []
  | [], _ :: _ => []
  | _ :: fl, none :: r => none :: keepH hp fl r
  | id :: fl, some _ :: r => hp id :: keepH hp fl r

def fOf (fl : List Nat) (d : Nat) : Nat → Nat := fun i => (lget fl i).getD d

def nodup : List Nat → Bool
  | [] => true
  | x :: xs => !natIn x xs && nodup xs

def lenEq : List Nat → List (Option Blk) → Bool
  | [], [] => true
  | _ :: a, _ :: b => lenEq a b
  | _, _ => false

/-- The state by lists is a part of S. -/
structure Norm (S : St) (fl : List Nat) (tl : List PV) (hl : List (Option Blk)) (gl : List PV := []) : Prop where
  t : keepT S.tm 0 tl = rens (fOf fl S.nx) tl
  h : keepH S.hp fl hl = renH (fOf fl S.nx) hl
  n : nodup fl = true
  l : lenEq fl hl = true
  g : keepT (gtm S.gs) 0 gl = rens (fOf fl S.nx) gl

def Weak (n : Nat) (S S1 : St) : Prop :=
  ∀ (w0 : World) (X : Nat → Prop) (ar : Array Value) (c : Cx) (a : Act), Sim w0 X ar n S c a → ∃ c' : Cx, c'.w = c.w ∧ Sim w0 X ar n S1 c' a

theorem keepT_get {f : Nat → Nat} {tm : Nat → PV} : ∀ {tl : List PV} {t0 : Nat}, keepT tm t0 tl = rens f tl → ∀ t p, lget tl t = some p → p = .junk ∨ p.ren f = (tm (t0 + t)).unK
  | [], _, _, t, p, h => by simp [lget] at h
  | q :: r, t0, e, t, p, h => by
    have tailcase : keepT tm (t0 + 1) r = rens f r → ∀ t, lget r t = some p → p = .junk ∨ p.ren f = (tm (t0 + (t + 1))).unK := fun er t ht => by
      have := keepT_get er t p ht
      rwa [show t0 + 1 + t = t0 + (t + 1) from by omega] at this
    simp only [keepT] at e
    split at e
    · simp only [rens, List.cons.injEq] at e
      cases t with
      | zero => simp only [lget, Option.some.injEq] at h; exact .inl h.symm
      | succ t => exact tailcase e.2 t (by simpa [lget] using h)
    · simp only [rens, List.cons.injEq] at e
      cases t with
      | zero => simp only [lget, Option.some.injEq] at h; subst h; exact .inr e.1.symm
      | succ t => exact tailcase e.2 t (by simpa [lget] using h)

theorem keepH_get {f : Nat → Nat} {hp : Nat → Option Blk} : ∀ {fl : List Nat} {hl : List (Option Blk)}, keepH hp fl hl = renH f hl → ∀ i b, lget hl i = some (some b) → ∃ id, lget fl i = some id ∧ hp id = some (b.ren f)
  | _, [], _, i, b, h => by simp [lget] at h
  | [], x :: r, e, i, b, h => by cases x <;> simp [keepH, renH] at e
  | id :: fl, none :: r, e, i, b, h => by
    simp only [keepH, renH, List.cons.injEq, true_and] at e
    cases i with
    | zero => simp [lget] at h
    | succ i => exact keepH_get e i b (by simpa [lget] using h)
  | id :: fl, some b' :: r, e, i, b, h => by
    simp only [keepH, renH, List.cons.injEq] at e
    cases i with
    | zero => simp only [lget, Option.some.injEq] at h; subst h; exact ⟨id, rfl, e.1⟩
    | succ i => exact keepH_get e.2 i b (by simpa [lget] using h)

theorem nodup_get : ∀ {fl : List Nat}, nodup fl = true → ∀ i j x, lget fl i = some x → lget fl j = some x → i = j
  | [], _, i, j, x, h, _ => by simp [lget] at h
  | y :: fl, hn, i, j, x, hi, hj => by
    simp only [nodup, Bool.and_eq_true, Bool.not_eq_true'] at hn
    have no : ∀ k, lget fl k = some x → y ≠ x := fun k hk e => by
      have hm : natIn y fl = true := by
        rw [natIn_iff, e]
        rw [lget_eq] at hk
        exact List.mem_of_getElem? hk
      rw [hm] at hn
      exact absurd hn.1 (by simp)
    cases i with
    | zero =>
      simp only [lget, Option.some.injEq] at hi
      cases j with
      | zero => rfl
      | succ j => exact absurd hi (no j (by simpa [lget] using hj))
    | succ i =>
      cases j with
      | zero => simp only [lget, Option.some.injEq] at hj; exact absurd hj (no i (by simpa [lget] using hi))
      | succ j => rw [nodup_get hn.2 i j x (by simpa [lget] using hi) (by simpa [lget] using hj)]

theorem lenEq_len : ∀ {fl : List Nat} {hl : List (Option Blk)}, lenEq fl hl = true → fl.length = hl.length
  | [], [], _ => rfl
  | _ :: a, _ :: b, h => congrArg (· + 1) (lenEq_len (fl := a) (hl := b) h)
  | [], _ :: _, h => by simp [lenEq] at h
  | _ :: _, [], h => by simp [lenEq] at h

theorem Norm.weak {n : Nat} {S : St} {fl : List Nat} {tl : List PV} {hl : List (Option Blk)} {gl : List PV} (hN : Norm S fl tl hl gl) : Weak n S (LSt tl hl gl) := by
  intro w0 X ar c a hs
  let f := fOf fl S.nx
  have hfK : ∀ id, c.K (f id) → id < hl.length ∧ lget fl id = some (f id) := fun id hk => by
    have h1 := hs.nx _ hk
    cases hg : lget fl id with
    | none =>
      have : f id = S.nx := by show (lget fl id).getD S.nx = _; rw [hg]; rfl
      rw [this] at h1
      exact absurd h1 (Nat.lt_irrefl _)
    | some x =>
      have : f id = x := by show (lget fl id).getD S.nx = _; rw [hg]; rfl
      rw [this]
      exact ⟨by rw [← lenEq_len hN.l]; exact lget_lt hg, rfl⟩
  have hblk : ∀ i b, (lget hl i).getD none = some b → lget fl i = some (f i) ∧ S.hp (f i) = some (b.ren f) := fun i b h => by
    cases hg : lget hl i with
    | none => rw [hg] at h; cases h
    | some ob =>
      rw [hg] at h
      simp only [Option.getD_some] at h
      subst h
      obtain ⟨id, h1, h2⟩ := keepH_get hN.h i b hg
      have : f i = id := by show (lget fl i).getD S.nx = _; rw [h1]; rfl
      rw [this]
      exact ⟨h1, h2⟩
  refine ⟨renCx f c, rfl, hs.ar', fun t => ?_, hs.sz, hs.df, ⟨fun id b hb => ?_, fun id b m hb hm => ?_, fun i j bi bj m hi hj hbi hbj => ?_, hs.hs.fr, hs.hs.os, hs.hs.tape, hs.hs.output, hs.hs.sz, hs.hs.prlt, hs.hs.iv⟩, fun id hk => (hfK id hk).1, fun i p hp => ?_⟩
  · show VSim _ ((lget tl t).getD .junk) _
    cases hg : lget tl t with
    | none => simp only [Option.getD_none, VSim]
    | some p =>
      simp only [Option.getD_some]
      rcases keepT_get hN.t t p hg with rfl | hp
      · simp only [VSim]
      · refine ren_sim ?_
        have hp : p.ren f = (S.tm t).unK := by rw [hp, Nat.zero_add]
        rw [hp]
        exact (hs.ht t).unK
  · obtain ⟨h1, h2⟩ := hblk id b hb
    obtain ⟨hk, hbs⟩ := hs.hs.blk _ _ h2
    exact ⟨hk, ren_bsim hbs⟩
  · obtain ⟨h1, h2⟩ := hblk id b hb
    exact hs.hs.lo _ _ m h2 hm
  · obtain ⟨h1, h2⟩ := hblk i bi hi
    obtain ⟨h3, h4⟩ := hblk j bj hj
    have := hs.hs.inj _ _ _ _ m h2 h4 hbi hbj
    rw [← this] at h3
    exact nodup_get hN.n i j _ h1 h3
  · rcases keepT_get hN.g i p hp with rfl | hq
    · exact .inl rfl
    · rw [Nat.zero_add] at hq
      unfold gtm at hq
      cases hg : lget S.gs i with
      | none =>
        rw [hg] at hq
        refine .inl ?_
        cases p <;> simp_all [PV.ren, PV.unK]
      | some q =>
        rw [hg] at hq
        simp only [Option.getD_some] at hq
        rcases hs.gh i q hg with rfl | ⟨v, h1, h2⟩
        · refine .inl ?_
          cases p <;> simp_all [PV.ren, PV.unK]
        · exact .inr ⟨v, h1, ren_sim (by rw [hq]; exact h2.unK)⟩

def isL {α β : Type} : α ⊕ β → Bool
  | .inl _ => true
  | .inr _ => false
def leftD {α β : Type} [Inhabited α] : α ⊕ β → α
  | .inl a => a
  | .inr _ => default
def rightD {α β : Type} [Inhabited β] : α ⊕ β → β
  | .inl _ => default
  | .inr b => b

instance {α β : Type} [Inhabited α] : Inhabited (α ⊕ β) := ⟨.inl default⟩
instance : Inhabited Vec := ⟨⟨0, 0, 0⟩⟩
instance : Inhabited Ball := ⟨⟨0, 0, 0, 0⟩⟩
instance : Inhabited Mark := ⟨⟨0, 0, 0⟩⟩
instance : Inhabited Orbit := ⟨⟨0, 0, 0, 0, 0, 0⟩⟩
instance : Inhabited Body := ⟨⟨⟨0, 0, 0⟩, ⟨0, 0, 0⟩, 0⟩⟩
instance : Inhabited Entry := ⟨⟨[], 0, ⟨0, 0, 0, 0, 0, 0⟩⟩⟩

/-! ## Rounds -/

section
variable {P : Program} {n : Nat} {x : Code}

theorem SWp.weak {S S1 S2 : St} {e : Ex} (h : SWp P n x S e S1) (w : Weak n S1 S2) : SWp P n x S e S2 := by
  intro w0 X ar c a hs Q hq
  refine h w0 X ar c a hs Q fun c' a' hs' => ?_
  obtain ⟨c2, hw, hs2⟩ := w w0 X ar c' a' hs'
  rw [← hw]
  exact hq c2 a' hs2

theorem SLp.pre {S S1 S2 : St} {e : Ex} (w : Weak n S S1) (h : SLp P n x S1 e S2) : SLp P n x S e S2 := by
  intro w0 X ar c a hs Q hq
  obtain ⟨c2, hw, hs2⟩ := w w0 X ar c a hs
  rw [← hw]
  exact h w0 X ar c2 a hs2 Q hq

/-- A round's outcome: one more round, or the loop's end; with the numbers that the blocks had. -/
abbrev Round (σ ρ : Type) := DT ((σ ⊕ ρ) × List Nat)

structure LoopS (σ ρ : Type) where
  tl : σ → List PV
  hl : σ → List (Option Blk)
  ex : ρ → Ex
  otl : ρ → List PV
  ohl : ρ → List (Option Blk)
  gl : List PV := []
  ogl : ρ → List PV := fun _ => []

variable {σ ρ : Type}

def iter (step : σ → Round σ ρ) : Nat → σ → Option ρ
  | 0, _ => none
  | k + 1, s => match (step s).get with
    | some (.inl s', _) => iter step k s'
    | some (.inr r, _) => some r
    | none => none

theorem iter_more {step : σ → Round σ ρ} : ∀ {k : Nat} {s : σ} {r : ρ}, iter step k s = some r → ∀ m, iter step (k + m) s = some r
  | 0, s, r, h, m => by simp [iter] at h
  | k + 1, s, r, h, m => by
    rw [show k + 1 + m = (k + m) + 1 from by omega]
    simp only [iter] at h ⊢
    split at h
    · exact iter_more h m
    · exact h
    · cases h

theorem iter_one {step : σ → Round σ ρ} {k k' : Nat} {s : σ} {r r' : ρ} (h : iter step k s = some r) (h' : iter step k' s = some r') : r = r' := by
  have h1 := iter_more h k'
  have h2 := iter_more h' k
  rw [Nat.add_comm] at h2
  exact Option.some.inj (h1.symm.trans h2)

noncomputable def loopEnds (step : σ → Round σ ρ) (s : σ) : Bool := @decide (∃ k r, iter step k s = some r) (Classical.propDecidable _)
open Classical in
noncomputable def loopVal [Inhabited ρ] (step : σ → Round σ ρ) (s : σ) : ρ := if h : ∃ r, ∃ k, iter step k s = some r then h.choose else default

theorem loopVal_eq [Inhabited ρ] {step : σ → Round σ ρ} {s : σ} {k : Nat} {r : ρ} (h : iter step k s = some r) : loopVal step s = r ∧ loopEnds step s = true := by
  have h' : ∃ r, ∃ k, iter step k s = some r := ⟨r, k, h⟩
  refine ⟨?_, ?_⟩
  · unfold loopVal
    rw [dif_pos h']
    obtain ⟨k', hk'⟩ := h'.choose_spec
    exact iter_one hk' h
  · exact @decide_eq_true _ (Classical.propDecidable _) ⟨k, r, h⟩

theorem loopEnds_iter [Inhabited ρ] {step : σ → Round σ ρ} {s : σ} (h : loopEnds step s = true) : ∃ k, iter step k s = some (loopVal step s) := by
  obtain ⟨k, r, hk⟩ := @of_decide_eq_true _ (Classical.propDecidable _) h
  exact ⟨k, by rw [(loopVal_eq hk).1]; exact hk⟩

/-- A round's end, in the words of lists. -/
def target (L : LoopS σ ρ) : σ ⊕ ρ → Ex × List PV × List (Option Blk) × List PV
  | .inl s => (.normal, L.tl s, L.hl s, L.gl)
  | .inr r => (L.ex r, L.otl r, L.ohl r, L.ogl r)

abbrev LOut := Ex × List PV × List (Option Blk) × List PV × List Bool × Bool

def lgot (E : Env) (fuel : Nat) (x : Code) (S : St) (L : LoopS σ ρ) (p : Hs × ((σ ⊕ ρ) × List Nat)) : Option LOut :=
  (evalC E fuel x S p.1).map fun q => (q.1, keepT q.2.1.tm 0 (target L p.2.1).2.1, keepH q.2.1.hp p.2.2 (target L p.2.1).2.2.1, keepT (gtm q.2.1.gs) 0 (target L p.2.1).2.2.2, met q.2.2.2, nodup p.2.2 && lenEq p.2.2 (target L p.2.1).2.2.1)

def lsaid (E : Env) (fuel : Nat) (x : Code) (S : St) (L : LoopS σ ρ) (p : Hs × ((σ ⊕ ρ) × List Nat)) : Option LOut :=
  (evalC E fuel x S p.1).map fun q => ((target L p.2.1).1, rens (fOf p.2.2 q.2.1.nx) (target L p.2.1).2.1, renH (fOf p.2.2 q.2.1.nx) (target L p.2.1).2.2.1, rens (fOf p.2.2 q.2.1.nx) (target L p.2.1).2.2.2, said q.2.2.2, true)

/-- Each path of a round is what the tree says. -/
def AgreeL (E : Env) (fuel : Nat) (x : Code) (L : LoopS σ ρ) (step : σ → Round σ ρ) (s : σ) : Prop :=
  ((step s).leaves.map (lgot E fuel x (LSt (L.tl s) (L.hl s) L.gl) L)) = (step s).leaves.map (lsaid E fuel x (LSt (L.tl s) (L.hl s) L.gl) L) ∧ ((step s).leaves.all fun p => (evalC E fuel x (LSt (L.tl s) (L.hl s) L.gl) p.1).isSome) = true

theorem AgreeL.round {E : Env} (hE : EnvOK P E) {fuel : Nat} (hl : LoopsOK P E x) {L : LoopS σ ρ} {step : σ → Round σ ρ} {s : σ} (h : AgreeL E fuel x L step s) {r : (σ ⊕ ρ) × List Nat} (hr : (step s).get = some r) :
    SWp P E.n x (LSt (L.tl s) (L.hl s) L.gl) (target L r.1).1 (LSt (target L r.1).2.1 (target L r.1).2.2.1 (target L r.1).2.2.2) := by
  obtain ⟨H, h1, h2⟩ := DT.path hr
  have he := List.map_inj_left.1 h.1 (H, r) h2
  have hsome := List.all_eq_true.1 h.2 (H, r) h2
  cases hev : evalC E fuel x (LSt (L.tl s) (L.hl s) L.gl) H with
  | none => simp only [hev] at hsome; cases hsome
  | some q =>
    obtain ⟨e, S1, ds', cs⟩ := q
    unfold lgot lsaid at he
    simp only [hev, Option.map_some, Option.some.injEq, Prod.mk.injEq, Bool.and_eq_true] at he
    obtain ⟨he1, he2, he3, heg, he4, he5, he6⟩ := he
    have hcs := allEq_of he4 (evalC_told _ _ _ _ _ _ _ _ hev h1).1
    have := (evalC_sound hE fuel x _ H e S1 ds' cs hl hev hcs).1
    rw [he1] at this
    exact this.weak (Norm.weak ⟨he2, he3, he5, he6, heg⟩)

theorem iter_slp {E : Env} (hE : EnvOK P E) {fuel : Nat} (hl : LoopsOK P E x) {L : LoopS σ ρ} {step : σ → Round σ ρ} (h : ∀ s, AgreeL E fuel x L step s) (hex : ∀ r, L.ex r ≠ .normal) :
    ∀ (k : Nat) (s : σ) (r : ρ), iter step k s = some r → SLp P E.n x (LSt (L.tl s) (L.hl s) L.gl) (L.ex r) (LSt (L.otl r) (L.ohl r) (L.ogl r))
  | 0, s, r, hi => by simp [iter] at hi
  | k + 1, s, r, hi => by
    simp only [iter] at hi
    split at hi
    · rename_i s' fl hg
      have h1 := (h s).round hE hl hg
      exact slp_round h1 (iter_slp hE hl h hex k s' r hi)
    · rename_i r' fl hg
      cases hi
      have h1 := (h s).round hE hl hg
      exact slp_out (hex r) h1
    · cases hi

/-- A loop for the evaluator: how its state is read, and how its end is told. -/
noncomputable def loopF {π : Type} [Inhabited ρ] (step : π → σ → Round σ ρ) (ext : St → Option (π × σ × List Nat)) (post : π → ρ → DT (Ex × St)) : LoopF := fun S => match ext S with
  | some (p, s, _) => some (.need (loopEnds (step p) s) (post p (loopVal (step p) s)))
  | none => none

theorem loopF_ok {π : Type} [Inhabited ρ] {E : Env} (hE : EnvOK P E) {fuel : Nat} (hl : LoopsOK P E x) {L : π → LoopS σ ρ} {step : π → σ → Round σ ρ} (h : ∀ p s, AgreeL E fuel x (L p) (step p) s) (hex : ∀ p r, (L p).ex r ≠ .normal)
    {ext : St → Option (π × σ × List Nat)} (hext : ∀ S p s fl, ext S = some (p, s, fl) → Norm S fl ((L p).tl s) ((L p).hl s) (L p).gl) {post : π → ρ → DT (Ex × St)} (hpost : ∀ p r e S', (post p r).get = some (e, S') → e = (L p).ex r ∧ S' = LSt ((L p).otl r) ((L p).ohl r) ((L p).ogl r))
    (S : St) (t : DT (Ex × St)) (e : Ex) (S' : St) (hS : loopF step ext post S = some t) (ht : t.get = some (e, S')) : SLp P E.n x S e S' := by
  unfold loopF at hS
  split at hS
  · rename_i p s fl hx
    cases hS
    cases hends : loopEnds (step p) s with
    | false => rw [hends] at ht; simp [DT.get] at ht
    | true =>
      rw [hends] at ht
      simp only [DT.get] at ht
      obtain ⟨rfl, rfl⟩ := hpost _ _ _ _ ht
      obtain ⟨k, hk⟩ := loopEnds_iter hends
      exact SLp.pre (Norm.weak (hext S p s fl hx)) (iter_slp hE hl (h p) (hex p) k s _ hk)
  · cases hS

/-- The loops of a code, by their bodies. -/
def loopsOf : Code → List Code
  | .seq a b => loopsOf a ++ loopsOf b
  | .cond _ a b => loopsOf a ++ loopsOf b
  | .block _ b => loopsOf b
  | .loop b => b :: loopsOf b
  | _ => []

def LoopOK (P : Program) (E : Env) (b : Code) : Prop := ∀ F, E.loops (loopKey b) = some F → ∀ S t e S', F S = some t → t.get = some (e, S') → SLp P E.n b S e S'

theorem loopsOK_of {E : Env} : ∀ {x : Code}, (∀ b ∈ loopsOf x, LoopOK P E b) → LoopsOK P E x
  | .seq a b, h => ⟨loopsOK_of fun c hc => h c (by simp [loopsOf, hc]), loopsOK_of fun c hc => h c (by simp [loopsOf, hc])⟩
  | .cond _ a b, h => ⟨loopsOK_of fun c hc => h c (by simp [loopsOf, hc]), loopsOK_of fun c hc => h c (by simp [loopsOf, hc])⟩
  | .block _ b, h => loopsOK_of (x := b) h
  | .loop b, h => ⟨loopsOK_of (x := b) fun c hc => h c (by simp [loopsOf, hc]), h b (by simp [loopsOf])⟩
  | .skip, _ => trivial
  | .region _ _ _, _ => trivial
  | .rangeFunc _ _ _ _, _ => trivial
  | .exit _, _ => trivial
  | .label _, _ => trivial
  | .goto _, _ => trivial
  | .ret, _ => trivial
  | .scope _, _ => trivial
  | .refuse _, _ => trivial

/-- The loop number j of a function. -/
def lp (f : Func) (j : Nat) : Code := (lget (loopsOf (bodyOf f)) j).getD .skip

def AllOK (P : Program) (E : Env) : List Code → Prop
  | [] => True
  | b :: r => LoopOK P E b ∧ AllOK P E r

theorem loopsOK_list {E : Env} {x : Code} {l : List Code} (e : loopsOf x = l) (h : AllOK P E l) : LoopsOK P E x := by
  refine loopsOK_of fun b hb => ?_
  rw [e] at hb
  clear e
  induction l with
  | nil => cases hb
  | cons y r ih =>
    rcases List.mem_cons.1 hb with rfl | hb
    · exact h.1
    · exact ih h.2 hb

/-- A loop that is walked round by round. -/
theorem loopOK_none {E : Env} {b : Code} (h : (E.loops (loopKey b)).isNone = true) : LoopOK P E b := fun F hF => by rw [hF] at h; cases h

theorem loopOK_some {E : Env} {b : Code} {F : LoopF} (hF : E.loops (loopKey b) = some F) (h : ∀ S t e S', F S = some t → t.get = some (e, S') → SLp P E.n b S e S') : LoopOK P E b := fun G hG => by rw [hF] at hG; cases hG; exact h

/-- What is told of a loop by one text, or by another. -/
def orF (F G : LoopF) : LoopF := fun S => match F S with
  | some t => some t
  | none => G S

theorem orF_ok {n : Nat} {b : Code} {F G : LoopF} (hF : ∀ S t e S', F S = some t → t.get = some (e, S') → SLp P n b S e S') (hG : ∀ S t e S', G S = some t → t.get = some (e, S') → SLp P n b S e S') :
    ∀ S t e S', orF F G S = some t → t.get = some (e, S') → SLp P n b S e S' := fun S t e S' h ht => by
  unfold orF at h
  split at h
  · rename_i t' h'
    cases h
    exact hF S _ e S' h' ht
  · exact hG S _ e S' h ht

def loopTab : List (Nat × LoopF) → Nat → Option LoopF
  | [], _ => none
  | (k, F) :: r, n => bif Nat.beq n k then some F else loopTab r n

end
end Go.Proofs.Ytilfdpllleninaa
