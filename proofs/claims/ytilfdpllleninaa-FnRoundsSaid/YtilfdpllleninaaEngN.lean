/- The engine, part N: contracts by trees. -/
import Derived.Test.YtilfdpllleninaaEngM
namespace Go.Proofs.Ytilfdpllleninaa
set_option linter.unusedVariables false
set_option linter.unusedSimpArgs false

/-- The paths: what is decided on each, and the answer. -/
def consAll {α : Type} (x : Option (Bool × Bool)) : List (Hs × α) → List (Hs × α)
  | [] => []
  | (H, a) :: r => (x :: H, a) :: consAll x r

def DT.leaves {α : Type} : DT α → List (Hs × α)
  | .leaf a => [([], a)]
  | .ask c t e => consAll (some (c, true)) t.leaves ++ consAll (some (c, false)) e.leaves
  | .need c t => consAll (some (c, true)) t.leaves
  | .skip t => consAll none t.leaves
  | .fail => []

theorem consAll_mem {α : Type} {x : Option (Bool × Bool)} {H : Hs} {a : α} : ∀ {l : List (Hs × α)}, (H, a) ∈ l → (x :: H, a) ∈ consAll x l
  | [], h => by cases h
  | (H', a') :: r, h => by
    simp only [consAll, List.mem_cons, Prod.mk.injEq] at h ⊢
    rcases h with ⟨rfl, rfl⟩ | h
    · exact .inl ⟨rfl, rfl⟩
    · exact .inr (consAll_mem h)

theorem DT.path {α : Type} {r : α} : ∀ {t : DT α}, t.get = some r → ∃ H, AllH H ∧ (H, r) ∈ t.leaves
  | .leaf a, e => by simp only [DT.get, Option.some.injEq] at e; subst e; exact ⟨[], allH_nil, by simp [DT.leaves]⟩
  | .ask c t e', e => by
    cases c with
    | true => obtain ⟨H, h1, h2⟩ := DT.path (t := t) (by simpa [DT.get] using e); exact ⟨some (true, true) :: H, allH_cons rfl h1, by simp only [DT.leaves, List.mem_append]; exact .inl (consAll_mem h2)⟩
    | false => obtain ⟨H, h1, h2⟩ := DT.path (t := e') (by simpa [DT.get] using e); exact ⟨some (false, false) :: H, allH_cons rfl h1, by simp only [DT.leaves, List.mem_append]; exact .inr (consAll_mem h2)⟩
  | .need c t, e => by
    cases c with
    | true => obtain ⟨H, h1, h2⟩ := DT.path (t := t) (by simpa [DT.get] using e); exact ⟨_, allH_cons rfl h1, consAll_mem h2⟩
    | false => simp [DT.get] at e
  | .skip t, e => by
    obtain ⟨H, h1, h2⟩ := DT.path (t := t) (by simpa [DT.get] using e)
    exact ⟨_, allH_none h1, consAll_mem h2⟩
  | .fail, e => by simp [DT.get] at e

/-- The value, where nothing is needed. -/
def DT.val {α : Type} [Inhabited α] : DT α → α
  | .leaf a => a
  | .ask c t e => match c with
    | true => t.val
    | false => e.val
  | .need _ t => t.val
  | .skip t => t.val
  | .fail => default

/-- Is all the case that is needed? -/
def DT.ok {α : Type} : DT α → Bool
  | .leaf _ => true
  | .ask c t e => match c with
    | true => t.ok
    | false => e.ok
  | .need c t => match c with
    | true => t.ok
    | false => false
  | .skip t => t.ok
  | .fail => false

/-- Is nothing needed? -/
def DT.tot {α : Type} : DT α → Bool
  | .leaf _ => true
  | .ask _ t e => t.tot && e.tot
  | .need _ _ => false
  | .skip t => t.tot
  | .fail => false

theorem DT.get_ok {α : Type} [Inhabited α] : ∀ {t : DT α}, t.ok = true → t.get = some t.val
  | .leaf a, _ => rfl
  | .ask c t e, h => by cases c <;> simp only [DT.ok] at h <;> simp only [DT.get, DT.val, DT.get_ok h]
  | .need c t, h => by cases c <;> simp only [DT.ok, Bool.false_eq_true] at h; simp only [DT.get, DT.val, DT.get_ok h]
  | .skip t, h => by simp only [DT.ok] at h; simp only [DT.get, DT.val, DT.get_ok h]
  | .fail, h => by simp [DT.ok] at h

theorem DT.tot_ok {α : Type} : ∀ {t : DT α}, t.tot = true → t.ok = true
  | .leaf a, _ => rfl
  | .ask c t e, h => by
    simp only [DT.tot, Bool.and_eq_true] at h
    cases c
    · exact DT.tot_ok (t := e) h.2
    · exact DT.tot_ok (t := t) h.1
  | .need c t, h => by simp [DT.tot] at h
  | .skip t, h => DT.tot_ok (t := t) h
  | .fail, h => by simp [DT.tot] at h

section
variable {P : Program}

def bodyOf (f : Func) : Code := f.body.getD .skip
def noLoops : Nat → Option LoopF := fun _ => none

theorem loopsOK_none {E : Env} (h : E.loops = noLoops) : ∀ x, LoopsOK P E x
  | .seq a b => ⟨loopsOK_none h a, loopsOK_none h b⟩
  | .cond _ a b => ⟨loopsOK_none h a, loopsOK_none h b⟩
  | .block _ b => loopsOK_none h b
  | .loop b => ⟨loopsOK_none h b, fun F hF => by rw [h] at hF; cases hF⟩
  | .skip => trivial
  | .region _ _ _ => trivial
  | .rangeFunc _ _ _ _ => trivial
  | .exit _ => trivial
  | .label _ => trivial
  | .goto _ => trivial
  | .ret => trivial
  | .scope _ => trivial
  | .refuse _ => trivial

/-- Contracts by their functions' numbers. -/
def gamP : List (FuncId × Con) → FuncId → Option Con
  | [], _ => none
  | (f, G) :: r, g => bif Nat.beq g f then some G else gamP r g
def gamM : List (FuncId × MCon) → FuncId → Option MCon
  | [], _ => none
  | (f, G) :: r, g => bif Nat.beq g f then some G else gamM r g
def gamB : List (FuncId × BCon) → FuncId → Option BCon
  | [], _ => none
  | (f, G) :: r, g => bif Nat.beq g f then some G else gamB r g
def gamN : List (FuncId × NCon) → FuncId → Option NCon
  | [], _ => none
  | (f, G) :: r, g => bif Nat.beq g f then some G else gamN r g
def gam (l : List (FuncId × Con)) (m : List (FuncId × MCon) := []) (b : List (FuncId × BCon) := []) (n : List (FuncId × NCon) := []) : Gam := ⟨gamP l, gamM m, gamB b, gamN n⟩

theorem gam_nil : GamOK P (gam []) := ⟨fun f G h => (by cases h), fun f G h => (by cases h), fun f G h => (by cases h), fun f G h => (by cases h)⟩
theorem gam_cons {f : FuncId} {G : Con} {r : List (FuncId × Con)} {m : List (FuncId × MCon)} {b : List (FuncId × BCon)} {n : List (FuncId × NCon)} (h1 : FunOK P f G.fn) (h2 : GamOK P (gam r m b n)) : GamOK P (gam ((f, G) :: r) m b n) := ⟨fun g G' h => by
  simp only [gam, gamP, cond_eq_ite] at h
  split at h
  · rename_i e
    have e := Nat.eq_of_beq_eq_true e
    cases h
    subst e
    exact h1
  · exact h2.cons g G' h, h2.muts, h2.boxs, h2.news⟩
theorem gam_mut {f : FuncId} {G : MCon} {r : List (FuncId × MCon)} {b : List (FuncId × BCon)} {n : List (FuncId × NCon)} (h1 : MutOK P f G) (h2 : GamOK P (gam [] r b n)) : GamOK P (gam [] ((f, G) :: r) b n) := ⟨h2.cons, fun g G' h => by
  simp only [gam, gamM, cond_eq_ite] at h
  split at h
  · rename_i e
    have e := Nat.eq_of_beq_eq_true e
    cases h
    subst e
    exact h1
  · exact h2.muts g G' h, h2.boxs, h2.news⟩
theorem gam_box {f : FuncId} {G : BCon} {r : List (FuncId × BCon)} {n : List (FuncId × NCon)} (h1 : BoxOK P f G) (h2 : GamOK P (gam [] [] r n)) : GamOK P (gam [] [] ((f, G) :: r) n) := ⟨h2.cons, h2.muts, fun g G' h => by
  simp only [gam, gamB, cond_eq_ite] at h
  split at h
  · rename_i e
    have e := Nat.eq_of_beq_eq_true e
    cases h
    subst e
    exact h1
  · exact h2.boxs g G' h, h2.news⟩
theorem gam_new {f : FuncId} {G : NCon} {r : List (FuncId × NCon)} (h1 : NewOK P f G) (h2 : GamOK P (gam [] [] [] r)) : GamOK P (gam [] [] [] ((f, G) :: r)) := ⟨h2.cons, h2.muts, h2.boxs, fun g G' h => by
  simp only [gam, gamN, cond_eq_ite] at h
  split at h
  · rename_i e
    have e := Nat.eq_of_beq_eq_true e
    cases h
    subst e
    exact h1
  · exact h2.news g G' h⟩

/-- Does the evaluator answer on each path what the tree says? -/
def Agree {α : Type} (E : Env) (fuel : Nat) (x : Code) (rs : List ResultVar) (args : List PV) (mk : α → Ret) (l : List (Hs × α)) : Prop :=
  (l.map fun p => (evalF E fuel x rs args p.1).map fun q => (q.1, met q.2)) = l.map fun p => some (mk p.2, ((evalF E fuel x rs args p.1).map fun q => said q.2).getD [])

theorem Agree.gives {α : Type} {E : Env} {fuel : Nat} {x : Code} {rs : List ResultVar} {args : List PV} {mk : α → Ret} {t : DT α} (h : Agree E fuel x rs args mk t.leaves) {a : α} (ha : t.get = some a) : ∃ H, AllH H ∧ Gives E fuel x rs args H (mk a) := by
  obtain ⟨H, h1, h2⟩ := DT.path ha
  have := List.map_inj_left.1 h (H, a) h2
  exact ⟨H, h1, this⟩

/-- A contract, from paths that agree. -/
theorem con_ok {Γ : Gam} {T : TT} {n : Nat} (hΓ : GamOK P Γ) (hT : TTOK P T) (hm : P.follows .mixedOrders = true) {f : FuncId} {fn : Func} (hf : P.funcs[f]? = some fn) (hb : fn.body.isSome = true) (hname : (fn.name == "runtime.NumGoroutine") = false) (hn : fn.ntmps = n) {rs : Array ResultVar} (hrs : fn.results = rs) {loops : Nat → Option LoopF} (hl : LoopsOK P ⟨Γ, T, n, loops⟩ (bodyOf fn)) {G : Con} (fuel : Nat)
    (h : ∀ args t, G args = some t → Nat.ble args.length n = true ∧ ∀ r, t.get = some r → ∃ H, AllH H ∧ Gives ⟨Γ, T, n, loops⟩ fuel (bodyOf fn) rs.toList args H r) : FunOK P f G.fn := by
  have hb' : fn.body = some (bodyOf fn) := by unfold bodyOf; cases q : fn.body with
    | none => rw [q] at hb; cases hb
    | some x => rfl
  refine fn_ok (E := ⟨Γ, T, n, loops⟩) ⟨hΓ, hT, hm⟩ hf hb' hname hn hrs hl fuel fun args r hF => ?_
  unfold Con.fn at hF
  split at hF
  · rename_i t ht
    obtain ⟨h1, h2⟩ := h args t ht
    exact ⟨Nat.le_of_ble_eq_true h1, h2 r hF⟩
  · cases hF

/-- An answer that needs nothing. -/
theorem agree_tot {α : Type} [Inhabited α] {E : Env} {fuel : Nat} {x : Code} {rs : List ResultVar} {args : List PV} {mk : α → Ret} {t : DT α} (h : Agree E fuel x rs args mk t.leaves) (ht : t.tot = true) (r : Ret) (hr : (DT.leaf (mk t.val)).get = some r) : ∃ H, AllH H ∧ Gives E fuel x rs args H r := by
  simp only [DT.get, Option.some.injEq] at hr
  subst hr
  exact h.gives (DT.get_ok (DT.tot_ok ht))

/-- An answer that needs something. -/
theorem agree_need {α : Type} [Inhabited α] {E : Env} {fuel : Nat} {x : Code} {rs : List ResultVar} {args : List PV} {mk : α → Ret} {t : DT α} (h : Agree E fuel x rs args mk t.leaves) (r : Ret) (hr : (DT.need t.ok (.leaf (mk t.val))).get = some r) : ∃ H, AllH H ∧ Gives E fuel x rs args H r := by
  cases hk : t.ok with
  | false => rw [hk] at hr; simp [DT.get] at hr
  | true =>
    rw [hk] at hr
    simp only [DT.get, Option.some.injEq] at hr
    subst hr
    exact h.gives (DT.get_ok hk)

/-- An answer whose form is not one. -/
theorem agree_mixed {E : Env} {fuel : Nat} {x : Code} {rs : List ResultVar} {args : List PV} {t : DT Ret} (h : Agree E fuel x rs args id t.leaves) (r : Ret) (hr : t.get = some r) : ∃ H, AllH H ∧ Gives E fuel x rs args H r := h.gives hr

end
end Go.Proofs.Ytilfdpllleninaa
