/- The engine, part L: code, loops, functions. -/
import Derived.Test.YtilfdpllleninaaEngK
namespace Go.Proofs.Ytilfdpllleninaa
set_option linter.unusedVariables false
set_option linter.unusedSimpArgs false

inductive Ex where
  | normal
  | exit (id : Nat)
  | ret

def Ex.out : Ex → Exit
  | .normal => .normal
  | .exit id => .exit id
  | .ret => .ret

/-- A loop is named by the number of its first region. -/
def loopKey : Code → Nat
  | .region id _ _ => id
  | .seq a _ => loopKey a
  | .block _ b => loopKey b
  | .cond _ a _ => loopKey a
  | .loop b => loopKey b
  | _ => 0

abbrev LoopF := St → Option (DT (Ex × St))

structure Env where
  Γ : Gam
  T : TT
  n : Nat
  loops : Nat → Option LoopF

abbrev Hs := List (Option (Bool × Bool))
abbrev COut := Option (Ex × St × Hs × Conds)

/-- A condition's value, and whether it stands in the text. -/
def peek (x : Operand) (S : St) : Option (Bool × Bool) :=
  match x with
  | .tmp t => match S.tm t with
    | .bool b => some (b, false)
    | .boolK b => some (b, true)
    | _ => none
  | .const (.bool b) => some (b, true)
  | _ => none

/-- One of a tree's answers, by what is told. -/
def DT.told {α : Type} : DT α → Hs → Option (α × Hs × Conds)
  | .leaf a, ds => some (a, ds, [])
  | .ask c t e, ds => match ds with
    | [] => match c with
      | true => t.told []
      | false => e.told []
    | none :: ds' => match c with
      | true => t.told ds'
      | false => e.told ds'
    | some (h, d) :: ds' =>
      match (match d with
        | true => t.told ds'
        | false => e.told ds') with
      | some (a, ds1, cs) => some (a, ds1, (c, (h, d)) :: cs)
      | none => none
  | .need c t, ds => match ds with
    | [] => match c with
      | true => t.told []
      | false => none
    | none :: ds' => match c with
      | true => t.told ds'
      | false => none
    | some (h, d) :: ds' => match d with
      | true => match t.told ds' with
        | some (a, ds1, cs) => some (a, ds1, (c, (h, d)) :: cs)
        | none => none
      | false => none
  | .skip t, ds => t.told ds
  | .fail, _ => none

/-- What is told of a loop at a state, if anything is. -/
def loopAt (E : Env) (body : Code) (S : St) : Option (DT (Ex × St)) := match E.loops (loopKey body) with
  | some F => F S
  | none => none

def evalC (E : Env) : Nat → Code → St → Hs → COut
  | 0, _, _, _ => none
  | fuel + 1, c, S, ds =>
    match c with
    | .skip => some (.normal, S, ds, [])
    | .label _ => some (.normal, S, ds, [])
    | .region _ ops draw =>
      match steps E.Γ E.T E.n ops.toList S.nx ops.toList (S.tm, S.hp) ⟨ds, []⟩ with
      | none => none
      | some (ks, s', o') => bif !draw || orderOk [] [] ks then some (.normal, ⟨s'.1, s'.2, S.nx + 8 * ops.size, S.gs⟩, o'.ds, condsOf ks) else none
    | .seq x y =>
      match evalC E fuel x S ds with
      | none => none
      | some (.normal, S1, ds1, cs1) =>
        match evalC E fuel y S1 ds1 with
        | none => none
        | some (e, S2, ds2, cs2) => some (e, S2, ds2, cs1 ++ cs2)
      | some (e, S1, ds1, cs1) => some (e, S1, ds1, cs1)
    | .cond x thn els =>
      match peek x S with
      | none => none
      | some (b, true) => evalC E fuel (match b with | true => thn | false => els) S ds
      | some (b, false) =>
        match ds with
        | [] => evalC E fuel (match b with | true => thn | false => els) S []
        | none :: ds' => evalC E fuel (match b with | true => thn | false => els) S ds'
        | some (h, d) :: ds' =>
          match evalC E fuel (match d with | true => thn | false => els) S ds' with
          | none => none
          | some (e, S1, ds1, cs1) => some (e, S1, ds1, (b, (h, d)) :: cs1)
    | .block id body =>
      match evalC E fuel body S ds with
      | none => none
      | some (.exit i, S1, ds1, cs1) => bif i == id then some (.normal, S1, ds1, cs1) else some (.exit i, S1, ds1, cs1)
      | some (e, S1, ds1, cs1) => some (e, S1, ds1, cs1)
    | .loop body =>
      match loopAt E body S with
      | some t => match t.told ds with
        | none => none
        | some ((e, S'), ds', cs) => some (e, S', ds', cs)
      | none =>
        match evalC E fuel body S ds with
        | none => none
        | some (.normal, S1, ds1, cs1) =>
          match evalC E fuel (.loop body) S1 ds1 with
          | none => none
          | some (e, S2, ds2, cs2) => some (e, S2, ds2, cs1 ++ cs2)
        | some (e, S1, ds1, cs1) => some (e, S1, ds1, cs1)
    | .exit id => some (.exit id, S, ds, [])
    | .ret => some (.ret, S, ds, [])
    | _ => none

/-- What the reader says of conditions, and what is decided, agree. -/
def AllH (ds : Hs) : Prop := ∀ h d, some (h, d) ∈ ds → h = d

theorem AllH.tail {x : Option (Bool × Bool)} {ds : Hs} (h : AllH (x :: ds)) : AllH ds := fun a b hm => h a b (by simp [hm])

theorem Told.cons {c h d : Bool} {cs : Conds} (e : h = d) (t : Told cs) : Told ((c, (h, d)) :: cs) := fun a h' d' hm => by
  rcases List.mem_cons.1 hm with hm | hm
  · simp only [Prod.mk.injEq] at hm; obtain ⟨_, rfl, rfl⟩ := hm; exact e
  · exact t a h' d' hm

theorem DT.told_told {α : Type} : ∀ {t : DT α} {ds ds' : Hs} {a : α} {cs : Conds}, t.told ds = some (a, ds', cs) → AllH ds → Told cs ∧ AllH ds'
  | .leaf a, ds, ds', b, cs, e, h => by
    simp only [DT.told, Option.some.injEq, Prod.mk.injEq] at e
    obtain ⟨_, rfl, rfl⟩ := e
    exact ⟨told_nil, h⟩
  | .ask c t e', ds, ds', b, cs, e, h => by
    simp only [DT.told] at e
    split at e
    · split at e
      · exact DT.told_told (t := t) e h
      · exact DT.told_told (t := e') e h
    · split at e
      · exact DT.told_told (t := t) e h.tail
      · exact DT.told_told (t := e') e h.tail
    · rename_i hh d ds1
      split at e
      · rename_i a1 ds2 cs1 h1
        simp only [Option.some.injEq, Prod.mk.injEq] at e
        obtain ⟨_, rfl, rfl⟩ := e
        cases d with
        | true => obtain ⟨t1, t2⟩ := DT.told_told (t := t) h1 h.tail; exact ⟨t1.cons (h _ _ (by simp)), t2⟩
        | false => obtain ⟨t1, t2⟩ := DT.told_told (t := e') h1 h.tail; exact ⟨t1.cons (h _ _ (by simp)), t2⟩
      · cases e
  | .need c t, ds, ds', b, cs, e, h => by
    simp only [DT.told] at e
    split at e
    · split at e
      · exact DT.told_told (t := t) e h
      · cases e
    · split at e
      · exact DT.told_told (t := t) e h.tail
      · cases e
    · rename_i hh d ds1
      split at e
      · split at e
        · rename_i a1 ds2 cs1 h1
          simp only [Option.some.injEq, Prod.mk.injEq] at e
          obtain ⟨_, rfl, rfl⟩ := e
          obtain ⟨t1, t2⟩ := DT.told_told (t := t) h1 h.tail
          exact ⟨t1.cons (h _ _ (by simp)), t2⟩
        · cases e
      · cases e
  | .skip t, ds, ds', b, cs, e, h => DT.told_told (t := t) e h
  | .fail, ds, ds', b, cs, e, h => by simp [DT.told] at e

theorem DT.told_get {α : Type} : ∀ {t : DT α} {ds ds' : Hs} {a : α} {cs : Conds}, t.told ds = some (a, ds', cs) → AllEq cs → t.get = some a
  | .leaf a, ds, ds', b, cs, e, h => by
    simp only [DT.told, Option.some.injEq, Prod.mk.injEq] at e
    obtain ⟨rfl, _, _⟩ := e
    rfl
  | .ask c t e', ds, ds', b, cs, e, h => by
    simp only [DT.told] at e
    split at e
    · split at e
      · exact DT.told_get (t := t) e h
      · exact DT.told_get (t := e') e h
    · split at e
      · exact DT.told_get (t := t) e h
      · exact DT.told_get (t := e') e h
    · rename_i hh d ds1
      split at e
      · rename_i a1 ds2 cs1 h1
        simp only [Option.some.injEq, Prod.mk.injEq] at e
        obtain ⟨rfl, rfl, rfl⟩ := e
        obtain ⟨hc, hcs⟩ := h
        simp only at hc
        subst hc
        cases c with
        | true => exact DT.told_get (t := t) h1 hcs
        | false => exact DT.told_get (t := e') h1 hcs
      · cases e
  | .need c t, ds, ds', b, cs, e, h => by
    simp only [DT.told] at e
    split at e
    · split at e
      · exact DT.told_get (t := t) e h
      · cases e
    · split at e
      · exact DT.told_get (t := t) e h
      · cases e
    · rename_i hh d ds1
      split at e
      · split at e
        · rename_i a1 ds2 cs1 h1
          simp only [Option.some.injEq, Prod.mk.injEq] at e
          obtain ⟨rfl, rfl, rfl⟩ := e
          obtain ⟨hc, hcs⟩ := h
          simp only at hc
          subst hc
          exact DT.told_get (t := t) h1 hcs
        · cases e
      · cases e
  | .skip t, ds, ds', b, cs, e, h => DT.told_get (t := t) e h
  | .fail, ds, ds', b, cs, e, h => by simp [DT.told] at e

theorem evalC_told {E : Env} : ∀ (fuel : Nat) (x : Code) (S : St) (ds : Hs) (e : Ex) (S' : St) (ds' : Hs) (cs : Conds), evalC E fuel x S ds = some (e, S', ds', cs) → AllH ds → Told cs ∧ AllH ds' := by
  intro fuel
  induction fuel with
  | zero => intro x S ds e S' ds' cs he; simp [evalC] at he
  | succ fuel ih =>
    intro x S ds e S' ds' cs he hd
    cases x with
    | skip =>
      simp only [evalC, Option.some.injEq, Prod.mk.injEq] at he
      obtain ⟨_, _, rfl, rfl⟩ := he
      exact ⟨told_nil, hd⟩
    | label l =>
      simp only [evalC, Option.some.injEq, Prod.mk.injEq] at he
      obtain ⟨_, _, rfl, rfl⟩ := he
      exact ⟨told_nil, hd⟩
    | exit id =>
      simp only [evalC, Option.some.injEq, Prod.mk.injEq] at he
      obtain ⟨_, _, rfl, rfl⟩ := he
      exact ⟨told_nil, hd⟩
    | ret =>
      simp only [evalC, Option.some.injEq, Prod.mk.injEq] at he
      obtain ⟨_, _, rfl, rfl⟩ := he
      exact ⟨told_nil, hd⟩
    | region id ops draw =>
      simp only [evalC] at he
      split at he
      · cases he
      · rename_i ks s' o1 hst
        obtain ⟨h1, h2⟩ := steps_told hst ⟨hd, fun n h d hm => by cases hm⟩
        rw [cond_eq_ite] at he
        split at he
        · simp only [Option.some.injEq, Prod.mk.injEq] at he
          obtain ⟨_, _, rfl, rfl⟩ := he
          exact ⟨h1, h2.ds⟩
        · cases he
    | seq x y =>
      simp only [evalC] at he
      split at he
      · cases he
      · rename_i S1 ds1 cs1 h1
        obtain ⟨t1, a1⟩ := ih _ _ _ _ _ _ _ h1 hd
        split at he
        · cases he
        · rename_i e2 S2 ds2 cs2 h2
          obtain ⟨t2, a2⟩ := ih _ _ _ _ _ _ _ h2 a1
          simp only [Option.some.injEq, Prod.mk.injEq] at he
          obtain ⟨_, _, rfl, rfl⟩ := he
          exact ⟨t1.append t2, a2⟩
      · rename_i e1 S1 ds1 cs1 hne h1
        simp only [Option.some.injEq, Prod.mk.injEq] at he
        obtain ⟨_, _, rfl, rfl⟩ := he
        exact ih _ _ _ _ _ _ _ h1 hd
    | cond o x y =>
      simp only [evalC] at he
      split at he
      · cases he
      · exact ih _ _ _ _ _ _ _ he hd
      · split at he
        · exact ih _ _ _ _ _ _ _ he (fun h d hm => by cases hm)
        · exact ih _ _ _ _ _ _ _ he (fun h d hm => hd h d (by simp [hm]))
        · rename_i h d ds1
          split at he
          · cases he
          · rename_i e1 S1 ds2 cs1 h1
            obtain ⟨t1, a1⟩ := ih _ _ _ _ _ _ _ h1 (fun h d hm => hd h d (by simp [hm]))
            simp only [Option.some.injEq, Prod.mk.injEq] at he
            obtain ⟨_, _, rfl, rfl⟩ := he
            refine ⟨fun a h' d' hm => ?_, a1⟩
            rcases List.mem_cons.1 hm with hm | hm
            · simp only [Prod.mk.injEq] at hm
              obtain ⟨_, rfl, rfl⟩ := hm
              exact hd _ _ (by simp)
            · exact t1 a h' d' hm
    | block id x =>
      simp only [evalC] at he
      split at he
      · cases he
      · rename_i i S1 ds1 cs1 h1
        have := ih _ _ _ _ _ _ _ h1 hd
        rw [cond_eq_ite] at he
        split at he
        · simp only [Option.some.injEq, Prod.mk.injEq] at he
          obtain ⟨_, _, rfl, rfl⟩ := he
          exact this
        · simp only [Option.some.injEq, Prod.mk.injEq] at he
          obtain ⟨_, _, rfl, rfl⟩ := he
          exact this
      · rename_i e1 S1 ds1 cs1 hne h1
        simp only [Option.some.injEq, Prod.mk.injEq] at he
        obtain ⟨_, _, rfl, rfl⟩ := he
        exact ih _ _ _ _ _ _ _ h1 hd
    | loop x =>
      simp only [evalC] at he
      split at he
      · split at he
        · cases he
        · rename_i e1 S1 ds1 cs1 h1
          simp only [Option.some.injEq, Prod.mk.injEq] at he
          obtain ⟨_, _, rfl, rfl⟩ := he
          exact DT.told_told h1 hd
      · split at he
        · cases he
        · rename_i S1 ds1 cs1 h1
          obtain ⟨t1, a1⟩ := ih _ _ _ _ _ _ _ h1 hd
          split at he
          · cases he
          · rename_i e2 S2 ds2 cs2 h2
            obtain ⟨t2, a2⟩ := ih _ _ _ _ _ _ _ h2 a1
            simp only [Option.some.injEq, Prod.mk.injEq] at he
            obtain ⟨_, _, rfl, rfl⟩ := he
            exact ⟨t1.append t2, a2⟩
        · rename_i e1 S1 ds1 cs1 hne h1
          simp only [Option.some.injEq, Prod.mk.injEq] at he
          obtain ⟨_, _, rfl, rfl⟩ := he
          exact ih _ _ _ _ _ _ _ h1 hd
    | rangeFunc f ps az b => simp [evalC] at he
    | goto l => simp [evalC] at he
    | scope b => simp [evalC] at he
    | refuse w => simp [evalC] at he

/-- From the state S the code comes to its end e in the state S'. -/
def SWp (P : Program) (n : Nat) (x : Code) (S : St) (e : Ex) (S' : St) : Prop :=
  ∀ (w0 : World) (X : Nat → Prop) (ar : Array Value) (c : Cx) (a : Act), Sim w0 X ar n S c a → ∀ Q : Exit → Act → World → Prop, (∀ c' a', Sim w0 X ar n S' c' a' → Q e.out a' c'.w) → x.wp P Q a c.w

section
variable {P : Program}

theorem swp_seq {n : Nat} {x y : Code} {S S1 S2 : St} {e : Ex} (h1 : SWp P n x S .normal S1) (h2 : SWp P n y S1 e S2) : SWp P n (.seq x y) S e S2 := by
  intro w0 X ar c a hs Q hq
  refine wp_seq (h1 w0 X ar c a hs _ fun c' a' hs' => ?_)
  exact h2 w0 X ar c' a' hs' Q hq

theorem swp_seq_out {n : Nat} {x y : Code} {S S1 : St} {e : Ex} (he : e ≠ .normal) (h1 : SWp P n x S e S1) : SWp P n (.seq x y) S e S1 := by
  intro w0 X ar c a hs Q hq
  refine wp_seq (h1 w0 X ar c a hs _ fun c' a' hs' => ?_)
  cases e with
  | normal => exact absurd rfl he
  | exit id => exact hq c' a' hs'
  | ret => exact hq c' a' hs'

theorem peek_sim {w0 : World} {X : Nat → Prop} {ar : Array Value} {n : Nat} {S : St} {c : Cx} {a : Act} (hs : Sim w0 X ar n S c a) {x : Operand} {b k : Bool} (hp : peek x S = some (b, k)) : a.eval x = .bool b := by
  unfold peek at hp
  split at hp
  · rename_i t
    have h1 := hs.ht t
    split at hp
    · rename_i b' hb
      cases hp
      rw [hb] at h1
      simpa [VSim, Act.eval] using h1
    · rename_i b' hb
      cases hp
      rw [hb] at h1
      simpa [VSim, Act.eval] using h1
    · cases hp
  · cases hp; rfl
  · cases hp

theorem swp_block {n id : Nat} {x : Code} {S S1 : St} (h : SWp P n x S (.exit id) S1) : SWp P n (.block id x) S .normal S1 := by
  intro w0 X ar c a hs Q hq
  refine wp_block (h w0 X ar c a hs _ fun c' a' hs' => ?_)
  show Exit.inBlock id Q (.exit id) a' c'.w
  simp only [Exit.inBlock, if_true]
  exact hq c' a' hs'

theorem swp_block_out {n id : Nat} {x : Code} {S S1 : St} {e : Ex} (he : e ≠ .exit id) (h : SWp P n x S e S1) : SWp P n (.block id x) S e S1 := by
  intro w0 X ar c a hs Q hq
  refine wp_block (h w0 X ar c a hs _ fun c' a' hs' => ?_)
  cases e with
  | normal => exact hq c' a' hs'
  | exit i =>
    show Exit.inBlock id Q (.exit i) a' c'.w
    simp only [Exit.inBlock]
    rw [if_neg (fun q => he (by rw [q]))]
    exact hq c' a' hs'
  | ret => exact hq c' a' hs'

/-- A loop's body is entered. -/
def LWp (P : Program) (x : Code) (Q : Exit → Act → World → Prop) (a : Act) (w : World) : Prop :=
  ∀ (b : Frame) (k : List Item) (cs : List Frame), ∃ e a' w', Q e a' w' ∧ Arrives P (lone (b.at a (.code x :: .inLoop x :: k)) cs w) b k cs e a' w'

theorem wp_of_LWp {Q : Exit → Act → World → Prop} {a : Act} {w : World} {x : Code} (h : LWp P x Q a w) : (Code.loop x).wp P Q a w := by
  intro b k cs
  obtain ⟨e, a', w', hq, harr⟩ := h b k cs
  exact ⟨e, a', w', hq, .of_steps (.one step_loop) harr⟩

theorem LWp_once {Q : Exit → Act → World → Prop} {a : Act} {w : World} {x : Code} (h : x.wp P (Exit.then (LWp P x Q) Q) a w) : LWp P x Q a w := by
  intro b k cs
  obtain ⟨e, a₁, w₁, hq, harr⟩ := h b (.inLoop x :: k) cs
  cases e with
  | normal =>
    obtain ⟨e₂, a₂, w₂, hq₂, harr₂⟩ := hq b k cs
    exact ⟨e₂, a₂, w₂, hq₂, .of_steps (Steps.trans harr (.one step_inLoop)) harr₂⟩
  | exit id => exact ⟨_, a₁, w₁, hq, .pass (x := .inLoop x) rfl (fun _ _ => .inl (by simp)) harr⟩
  | goto l => exact ⟨_, a₁, w₁, hq, .pass (x := .inLoop x) rfl (fun _ _ => .inl (by simp)) harr⟩
  | ret => exact ⟨_, a₁, w₁, hq, .pass (x := .inLoop x) rfl (fun _ _ => .inl (by simp)) harr⟩
  | panic ch => exact ⟨_, a₁, w₁, hq, .pass (x := .inLoop x) rfl (fun _ _ => .inl (by simp)) harr⟩
  | outgrown => exact ⟨_, a₁, w₁, hq, .pass (x := .inLoop x) rfl (fun _ _ => .inl (by simp)) harr⟩

/-- From the state S the loop over the body comes to its end e in the state S'. -/
def SLp (P : Program) (n : Nat) (x : Code) (S : St) (e : Ex) (S' : St) : Prop :=
  ∀ (w0 : World) (X : Nat → Prop) (ar : Array Value) (c : Cx) (a : Act), Sim w0 X ar n S c a → ∀ Q : Exit → Act → World → Prop, (∀ c' a', Sim w0 X ar n S' c' a' → Q e.out a' c'.w) → LWp P x Q a c.w

theorem slp_round {n : Nat} {x : Code} {S S1 S2 : St} {e : Ex} (h1 : SWp P n x S .normal S1) (h2 : SLp P n x S1 e S2) : SLp P n x S e S2 := by
  intro w0 X ar c a hs Q hq
  refine LWp_once (h1 w0 X ar c a hs _ fun c' a' hs' => ?_)
  exact h2 w0 X ar c' a' hs' Q hq

theorem slp_out {n : Nat} {x : Code} {S S1 : St} {e : Ex} (he : e ≠ .normal) (h1 : SWp P n x S e S1) : SLp P n x S e S1 := by
  intro w0 X ar c a hs Q hq
  refine LWp_once (h1 w0 X ar c a hs _ fun c' a' hs' => ?_)
  cases e with
  | normal => exact absurd rfl he
  | exit id => exact hq c' a' hs'
  | ret => exact hq c' a' hs'

theorem swp_loop {n : Nat} {x : Code} {S S1 : St} {e : Ex} (h : SLp P n x S e S1) : SWp P n (.loop x) S e S1 :=
  fun w0 X ar c a hs Q hq => wp_of_LWp (h w0 X ar c a hs Q hq)

structure EnvOK (P : Program) (E : Env) : Prop where
  Γ : GamOK P E.Γ
  T : TTOK P E.T
  mixed : P.follows .mixedOrders = true

/-- What is said of a loop holds of every loop that bears its name. -/
def LoopsOK (P : Program) (E : Env) : Code → Prop
  | .seq a b => LoopsOK P E a ∧ LoopsOK P E b
  | .cond _ a b => LoopsOK P E a ∧ LoopsOK P E b
  | .block _ b => LoopsOK P E b
  | .loop b => LoopsOK P E b ∧ ∀ F, E.loops (loopKey b) = some F → ∀ S t e S', F S = some t → t.get = some (e, S') → SLp P E.n b S e S'
  | _ => True

theorem evalC_sound {E : Env} (hE : EnvOK P E) : ∀ (fuel : Nat) (x : Code) (S : St) (ds : Hs) (e : Ex) (S' : St) (ds' : Hs) (cs : Conds), LoopsOK P E x → evalC E fuel x S ds = some (e, S', ds', cs) → AllEq cs →
    SWp P E.n x S e S' ∧ ∀ b, x = .loop b → SLp P E.n b S e S' := by
  intro fuel
  induction fuel with
  | zero => intro x S ds e S' ds' cs _ he; simp [evalC] at he
  | succ fuel ih =>
    intro x S ds e S' ds' cs hl he hc
    have noLoop : ∀ {x : Code} {S S' : St} {e : Ex}, (∀ b, x ≠ .loop b) → SWp P E.n x S e S' → SWp P E.n x S e S' ∧ ∀ b, x = .loop b → SLp P E.n b S e S' := fun h h' => ⟨h', fun b hb => absurd hb (h b)⟩
    cases x with
    | skip =>
      simp only [evalC, Option.some.injEq, Prod.mk.injEq] at he
      obtain ⟨rfl, rfl, _, _⟩ := he
      exact noLoop (fun b h => by cases h) fun w0 X ar c a hs Q hq => wp_skip (hq c a hs)
    | label l =>
      simp only [evalC, Option.some.injEq, Prod.mk.injEq] at he
      obtain ⟨rfl, rfl, _, _⟩ := he
      exact noLoop (fun b h => by cases h) fun w0 X ar c a hs Q hq => wp_label (hq c a hs)
    | exit id =>
      simp only [evalC, Option.some.injEq, Prod.mk.injEq] at he
      obtain ⟨rfl, rfl, _, _⟩ := he
      exact noLoop (fun b h => by cases h) fun w0 X ar c a hs Q hq => wp_exit (hq c a hs)
    | ret =>
      simp only [evalC, Option.some.injEq, Prod.mk.injEq] at he
      obtain ⟨rfl, rfl, _, _⟩ := he
      exact noLoop (fun b h => by cases h) fun w0 X ar c a hs Q hq => wp_ret (hq c a hs)
    | region id ops draw =>
      simp only [evalC] at he
      split at he
      · cases he
      · rename_i ks s' ds1 hst
        cases hcond : (!draw || orderOk [] [] ks) with
        | false => rw [hcond] at he; cases he
        | true =>
          rw [hcond] at he
          simp only [cond_true, Option.some.injEq, Prod.mk.injEq] at he
          obtain ⟨rfl, rfl, _, rfl⟩ := he
          refine noLoop (fun b h => by cases h) fun w0 X ar c a hs Q hq => ?_
          cases draw with
          | false =>
            refine wp_region ?_
            have := steps_sound (n := E.n) (Q := Q) hE.Γ hE.T (ops := ops) ops.toList 0 S.nx (S.tm, S.hp) ⟨ds, []⟩ ds1 ks s' c a (by simp) hst hc hs (fun c' a' h' => hq c' a' (by simpa using h'))
            rw [List.range_eq_range']
            simpa using this
          | true =>
            have ho : orderOk [] [] ks = true := by simpa using hcond
            refine wp_region_any hE.mixed ?_
            have hsame := hs.hs.same (w' := c.w.drew) (.inr rfl)
            refine any_sound (n := E.n) (ar := ar) (w0 := w0) (X := X) (Q := Q) (idb := S.nx) (s0 := (S.tm, S.hp)) hE.Γ hE.T hst hc ho (fun c' a' h' => hq c' a' h') ops.size (Array.replicate ops.size false) (S.tm, S.hp) { c with w := c.w.drew } a (by simp) (by simp) ⟨?_, ?_⟩ (fun t => (hs.ht t).ext (hsame.2 fun _ => False)) hs.sz hs.df hsame.1 hs.ar' (hs.gh.ext (hsame.2 fun _ => False)) (fun id hid => .inl (hs.nx id hid))
            · intro j k hk hj
              exfalso
              rcases Nat.lt_or_ge j ops.size with q | q
              · simp [lst, q] at hj
              · simp [lst, q] at hj
            · intro r
              refine .inr ⟨fun m y _ hm => ?_, rfl⟩
              exfalso
              rcases Nat.lt_or_ge m ops.size with q | q
              · simp [lst, q] at hm
              · simp [lst, q] at hm
    | seq x y =>
      obtain ⟨hl1, hl2⟩ := hl
      simp only [evalC] at he
      split at he
      · cases he
      · rename_i S1 ds1 cs1 h1
        split at he
        · cases he
        · rename_i e2 S2 ds2 cs2 h2
          simp only [Option.some.injEq, Prod.mk.injEq] at he
          obtain ⟨rfl, rfl, rfl, rfl⟩ := he
          obtain ⟨hc1, hc2⟩ := AllEq.append hc
          exact noLoop (fun b h => by cases h) (swp_seq (ih _ _ _ _ _ _ _ hl1 h1 hc1).1 (ih _ _ _ _ _ _ _ hl2 h2 hc2).1)
      · rename_i e1 S1 ds1 cs1 hne h1
        simp only [Option.some.injEq, Prod.mk.injEq] at he
        obtain ⟨rfl, rfl, rfl, rfl⟩ := he
        exact noLoop (fun b h => by cases h) (swp_seq_out (fun q => hne q) (ih _ _ _ _ _ _ _ hl1 h1 hc).1)
    | cond o x y =>
      obtain ⟨hl1, hl2⟩ := hl
      have both : ∀ {b k : Bool} {ds1 ds2 : Hs} {cs1 : Conds}, peek o S = some (b, k) → evalC E fuel (match b with | true => x | false => y) S ds1 = some (e, S', ds2, cs1) → AllEq cs1 → SWp P E.n (.cond o x y) S e S' := by
        intro b k ds1 ds2 cs1 hp h1 hc1 w0 X ar c a hs Q hq
        refine wp_cond (peek_sim hs hp) ?_
        cases b
        · exact (ih _ _ _ _ _ _ _ hl2 h1 hc1).1 w0 X ar c a hs Q hq
        · exact (ih _ _ _ _ _ _ _ hl1 h1 hc1).1 w0 X ar c a hs Q hq
      simp only [evalC] at he
      split at he
      · cases he
      · rename_i b hp
        exact noLoop (fun b h => by cases h) (both hp he hc)
      · rename_i b hp
        split at he
        · exact noLoop (fun b h => by cases h) (both hp he hc)
        · exact noLoop (fun b h => by cases h) (both hp he hc)
        · rename_i h d ds1
          split at he
          · cases he
          · rename_i e1 S1 ds2 cs1 h1
            simp only [Option.some.injEq, Prod.mk.injEq] at he
            obtain ⟨rfl, rfl, rfl, rfl⟩ := he
            obtain ⟨hbd, hc1⟩ := hc
            subst hbd
            exact noLoop (fun b h => by cases h) (both hp h1 hc1)
    | block id x =>
      simp only [evalC] at he
      split at he
      · cases he
      · rename_i i S1 ds1 cs1 h1
        rw [cond_eq_ite] at he
        split at he
        · rename_i hi
          have hi := eq_of_beq hi
          subst hi
          simp only [Option.some.injEq, Prod.mk.injEq] at he
          obtain ⟨rfl, rfl, rfl, rfl⟩ := he
          exact noLoop (fun b h => by cases h) (swp_block (ih x _ _ _ _ _ _ hl h1 hc).1)
        · rename_i hi
          simp only [Option.some.injEq, Prod.mk.injEq] at he
          obtain ⟨rfl, rfl, rfl, rfl⟩ := he
          exact noLoop (fun b h => by cases h) (swp_block_out (fun q => hi (by cases q; simp)) (ih x _ _ _ _ _ _ hl h1 hc).1)
      · rename_i e1 S1 ds1 cs1 hne h1
        simp only [Option.some.injEq, Prod.mk.injEq] at he
        obtain ⟨rfl, rfl, rfl, rfl⟩ := he
        exact noLoop (fun b h => by cases h) (swp_block_out (fun q => hne _ q) (ih x _ _ _ _ _ _ hl h1 hc).1)
    | loop x =>
      simp only [evalC] at he
      have key : SLp P E.n x S e S' := by
        split at he
        · rename_i t hFS
          split at he
          · cases he
          · rename_i e1 S1 ds1 cs1 h1
            simp only [Option.some.injEq, Prod.mk.injEq] at he
            obtain ⟨rfl, rfl, _, rfl⟩ := he
            unfold loopAt at hFS
            split at hFS
            · rename_i F hF
              exact hl.2 F hF S t _ _ hFS (DT.told_get h1 hc)
            · cases hFS
        · split at he
          · cases he
          · rename_i S1 ds1 cs1 h1
            split at he
            · cases he
            · rename_i e2 S2 ds2 cs2 h2
              simp only [Option.some.injEq, Prod.mk.injEq] at he
              obtain ⟨rfl, rfl, rfl, rfl⟩ := he
              obtain ⟨hc1, hc2⟩ := AllEq.append hc
              exact slp_round (ih _ _ _ _ _ _ _ hl.1 h1 hc1).1 ((ih _ _ _ _ _ _ _ hl h2 hc2).2 x rfl)
          · rename_i e1 S1 ds1 cs1 hne h1
            simp only [Option.some.injEq, Prod.mk.injEq] at he
            obtain ⟨rfl, rfl, rfl, rfl⟩ := he
            exact slp_out (fun q => hne q) (ih _ _ _ _ _ _ _ hl.1 h1 hc).1
      exact ⟨swp_loop key, fun b hb => by cases hb; exact key⟩
    | rangeFunc f ps az b => simp [evalC] at he
    | goto l => simp [evalC] at he
    | scope b => simp [evalC] at he
    | refuse w => simp [evalC] at he

end
end Go.Proofs.Ytilfdpllleninaa
