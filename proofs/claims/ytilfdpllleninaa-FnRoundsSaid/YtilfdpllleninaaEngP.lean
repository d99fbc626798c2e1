/- The engine, part P: functions that write into their first argument; arguments that are nil slices. -/
import Derived.Test.YtilfdpllleninaaEngO
namespace Go.Proofs.Ytilfdpllleninaa
set_option linter.unusedVariables false
set_option linter.unusedSimpArgs false

def startM (e : TypeId) (c : UC) (xs : List c.T) (ps : List PV) : St :=
  { tm := fun t => (lget (.own 0 :: ps) t).getD .junk, hp := fun i => bif Nat.beq i 0 then some (.typed e c xs) else none, nx := 1, gs := [.own 0] }

/-- The answer, and what the argument holds then. -/
def retM (T : TT) (S : St) (rs : List ResultVar) : Option (PV × Blk) :=
  match resultsR T S rs with
  | some [p] => match S.gs with
    | [.own id] => match S.hp id with
      | some (.typed e c xs) => some (p.unK, .typed e c xs)
      | _ => none
    | _ => none
  | _ => none

def evalM (E : Env) (fuel : Nat) (x : Code) (rs : List ResultVar) (e : TypeId) (c : UC) (xs : List c.T) (ps : List PV) (ds : Hs) : Option ((PV × Blk) × Conds) :=
  match evalC E fuel x (startM e c xs ps) ds with
  | some (.normal, S, _, cs) => (retM E.T S rs).map fun r => (r, cs)
  | some (.ret, S, _, cs) => (retM E.T S rs).map fun r => (r, cs)
  | _ => none

def GivesM (E : Env) (fuel : Nat) (x : Code) (rs : List ResultVar) (e : TypeId) (c : UC) (xs : List c.T) (ps : List PV) (H : Hs) (r : PV × List c.T) : Prop :=
  ((evalM E fuel x rs e c xs ps H).map fun q => (q.1, met q.2)) = some ((r.1, Blk.typed e c r.2), ((evalM E fuel x rs e c xs ps H).map fun q => said q.2).getD [])

def AgreeM {α : Type} (E : Env) (fuel : Nat) (x : Code) (rs : List ResultVar) (e : TypeId) (c : UC) (xs : List c.T) (ps : List PV) (mk : α → PV × List c.T) (l : List (Hs × α)) : Prop :=
  (l.map fun p => (evalM E fuel x rs e c xs ps p.1).map fun q => (q.1, met q.2)) = l.map fun p => some (((mk p.2).1, Blk.typed e c (mk p.2).2), ((evalM E fuel x rs e c xs ps p.1).map fun q => said q.2).getD [])

theorem AgreeM.gives {α : Type} {E : Env} {fuel : Nat} {x : Code} {rs : List ResultVar} {e : TypeId} {c : UC} {xs : List c.T} {ps : List PV} {mk : α → PV × List c.T} {t : DT α} (h : AgreeM E fuel x rs e c xs ps mk t.leaves) {a : α} (ha : t.get = some a) : ∃ H, AllH H ∧ GivesM E fuel x rs e c xs ps H (mk a) := by
  obtain ⟨H, h1, h2⟩ := DT.path ha
  have := List.map_inj_left.1 h (H, a) h2
  exact ⟨H, h1, this⟩

theorem agreeM_tot {α : Type} [Inhabited α] {E : Env} {fuel : Nat} {x : Code} {rs : List ResultVar} {e : TypeId} {c : UC} {xs : List c.T} {ps : List PV} {mk : α → PV × List c.T} {t : DT α} (h : AgreeM E fuel x rs e c xs ps mk t.leaves) (ht : t.tot = true) (r : PV × List c.T) (hr : (DT.leaf (mk t.val)).get = some r) : ∃ H, AllH H ∧ GivesM E fuel x rs e c xs ps H r := by
  simp only [DT.get, Option.some.injEq] at hr
  subst hr
  exact h.gives (DT.get_ok (DT.tot_ok ht))

theorem agreeM_need {α : Type} [Inhabited α] {E : Env} {fuel : Nat} {x : Code} {rs : List ResultVar} {e : TypeId} {c : UC} {xs : List c.T} {ps : List PV} {mk : α → PV × List c.T} {t : DT α} (h : AgreeM E fuel x rs e c xs ps mk t.leaves) (r : PV × List c.T) (hr : (DT.need t.ok (.leaf (mk t.val))).get = some r) : ∃ H, AllH H ∧ GivesM E fuel x rs e c xs ps H r := by
  cases hk : t.ok with
  | false => rw [hk] at hr; simp [DT.get] at hr
  | true =>
    rw [hk] at hr
    simp only [DT.get, Option.some.injEq] at hr
    subst hr
    exact h.gives (DT.get_ok hk)

/-- Answers of several forms. -/
theorem agree_forms {α : Type} [Inhabited α] {E : Env} {fuel : Nat} {x : Code} {rs : List ResultVar} {args : List PV} {mk : α → Ret} {t : DT α} (h : Agree E fuel x rs args mk t.leaves) {need : Bool} {t' : DT Ret} (hn : need = true → t.ok = true) (ht : t'.get = some (mk t.val)) (r : Ret) (hr : (DT.need need t').get = some r) : ∃ H, AllH H ∧ Gives E fuel x rs args H r := by
  cases need with
  | false => simp [DT.get] at hr
  | true =>
    simp only [DT.get] at hr
    rw [ht] at hr
    cases hr
    exact h.gives (DT.get_ok (hn rfl))

theorem agree_forms_tot {α : Type} [Inhabited α] {E : Env} {fuel : Nat} {x : Code} {rs : List ResultVar} {args : List PV} {mk : α → Ret} {t : DT α} (h : Agree E fuel x rs args mk t.leaves) {t' : DT Ret} (hn : t.tot = true) (ht : t'.get = some (mk t.val)) (r : Ret) (hr : t'.get = some r) : ∃ H, AllH H ∧ Gives E fuel x rs args H r := by
  rw [ht] at hr
  cases hr
  exact h.gives (DT.get_ok (DT.tot_ok hn))

section
variable {P : Program}

theorem startM_sim {n : Nat} {w : World} {e : TypeId} {c : UC} {xs : List c.T} {ps : List PV} {v : Value} {vs us : List Value} (hiv : IvOK w) (hiv2 : ∀ n, IvD n → blkOf v ≠ some n) (hn : vs.length + 1 ≤ n) (hpl : plains ps = true) (hps : VSims (argCx w #[]) ps vs) (ho : OwnsG w e c.size v xs.length us) (hS : All2 SSim (flat c xs) us) :
    Sim w (fun n => blkOf v = some n) (v :: vs).toArray n (startM e c xs ps) { w := w, pr := fun _ => False, φ := fun _ => v, K := fun n => n = 0, ar := (v :: vs).toArray } { tmps := (v :: vs).toArray ++ Array.replicate (n - (v :: vs).toArray.size) undef, defers := [] } := by
  have hown : VSim { w := w, pr := fun _ => False, φ := fun _ => v, K := fun n => n = 0, ar := (v :: vs).toArray } (.own 0) v := by
    simp only [VSim]
    refine ⟨trivial, trivial, ?_⟩
    rcases ho.2 with ⟨h, _⟩ | ⟨g, cap, cur, fz, h, _⟩
    · exact ⟨_, _, _, h⟩
    · exact ⟨_, _, _, h⟩
  have hat : ∀ id b, (startM e c xs ps).hp id = some b → id = 0 ∧ b = .typed e c xs := fun id b h => by
    simp only [startM, cond_eq_ite] at h
    split at h
    · rename_i q
      cases h
      exact ⟨Nat.eq_of_beq_eq_true q, rfl⟩
    · cases h
  refine ⟨rfl, fun t => ?_, by simp; omega, rfl, ⟨fun id b h => ?_, fun id b m h hm => ?_, fun i j bi bj m hi hj _ _ => ?_, fun m _ _ => rfl, rfl, rfl, rfl, Nat.le_refl _, fun m h => h.elim, hiv.1, fun n hn => ⟨hiv.2 n hn, hiv2 n hn⟩⟩, fun id h => ?_, fun i p h => ?_⟩
  · show VSim _ ((lget (.own 0 :: ps) t).getD .junk) _
    cases hg : lget (.own 0 :: ps) t with
    | none => simp only [Option.getD_none, VSim]
    | some p =>
      simp only [Option.getD_some]
      cases t with
      | zero =>
        simp only [lget, Option.some.injEq] at hg
        subst hg
        have h1 : ((v :: vs).toArray ++ Array.replicate (n - (v :: vs).toArray.size) undef)[0]? = some v := by
          rw [Array.getElem?_append_left (by simp)]
          simp
        rw [Array.getD_eq_getD_getElem?, h1]
        exact hown
      | succ t =>
        have hg' : lget ps t = some p := by simpa [lget] using hg
        obtain ⟨y, hy, hs⟩ := ((VSims_iff _ _ _).1 hps).get t hg'
        have hlt : t < vs.length := (List.getElem?_eq_some_iff.1 hy).1
        have : ((v :: vs).toArray ++ Array.replicate (n - (v :: vs).toArray.size) undef).getD (t + 1) undef = y := by
          have h1 : ((v :: vs).toArray ++ Array.replicate (n - (v :: vs).toArray.size) undef)[t + 1]? = some y := by
            rw [Array.getElem?_append_left (by simp; omega)]
            simpa using hy
          rw [Array.getD_eq_getD_getElem?, h1]
          rfl
        rw [this]
        have hm : p ∈ ps := by rw [lget_eq] at hg'; exact List.mem_of_getElem? hg'
        exact VSim.plain (plains_get hpl p hm) hs
  · obtain ⟨rfl, rfl⟩ := hat id b h
    exact ⟨rfl, us, ho, hS⟩
  · obtain ⟨rfl, rfl⟩ := hat id b h
    exact ⟨.inr hm, fun hp => hp⟩
  · rw [(hat i bi hi).1, (hat j bj hj).1]
  · have h : id = 0 := h
    subst h
    exact Nat.zero_lt_one
  · cases i with
    | zero =>
      simp only [startM, lget, Option.some.injEq] at h
      subst h
      exact .inr ⟨v, by simp, hown⟩
    | succ i => simp [startM, lget] at h

theorem mut_ok {Γ : Gam} {T : TT} {n : Nat} (hΓ : GamOK P Γ) (hT : TTOK P T) (hm : P.follows .mixedOrders = true) {f : FuncId} {fn : Func} (hf : P.funcs[f]? = some fn) (hb : fn.body.isSome = true) (hname : (fn.name == "runtime.NumGoroutine") = false) (hn : fn.ntmps = n) {rs : Array ResultVar} (hrs : fn.results = rs) {loops : Nat → Option LoopF} (hl : LoopsOK P ⟨Γ, T, n, loops⟩ (bodyOf fn)) {M : MCon} (fuel : Nat)
    (h : ∀ xs ps t, M.F xs ps = some t → Nat.ble (ps.length + 1) n = true ∧ ∀ r, t.get = some r → ∃ H, AllH H ∧ GivesM ⟨Γ, T, n, loops⟩ fuel (bodyOf fn) rs.toList M.e M.c xs ps H r) : MutOK P f M := by
  have hb' : fn.body = some (bodyOf fn) := by unfold bodyOf; cases q : fn.body with
    | none => rw [q] at hb; cases hb
    | some x => rfl
  have hE : EnvOK P ⟨Γ, T, n, loops⟩ := ⟨hΓ, hT, hm⟩
  intro w xs ps v vs us t r xs' hiv hiv2 hF ht hpl hrp hps ho hS
  obtain ⟨hlen, hag⟩ := h xs ps t hF
  have hlen := Nat.le_of_ble_eq_true hlen
  have hvl : vs.length = ps.length := ((VSims_iff _ _ _).1 hps).length.symm
  obtain ⟨H, hall, hg⟩ := hag _ ht
  unfold GivesM at hg
  cases hev : evalM ⟨Γ, T, n, loops⟩ fuel (bodyOf fn) rs.toList M.e M.c xs ps H with
  | none => simp only [hev] at hg; simp at hg
  | some q =>
    obtain ⟨qr, cs⟩ := q
    simp only [hev, Option.map_some, Option.getD_some, Option.some.injEq, Prod.mk.injEq] at hg
    obtain ⟨rfl, hmet⟩ := hg
    refine callsTo_of hf hb' hname (calls_of_wp hf hb' ?_)
    rw [hn]
    have hst := startM_sim (n := n) (e := M.e) hiv hiv2 (by omega) hpl hps ho hS
    have fin : ∀ {S : St} {ex : Ex} {ds' : Hs}, (ex = .normal ∨ ex = .ret) → evalC ⟨Γ, T, n, loops⟩ fuel (bodyOf fn) (startM M.e M.c xs ps) H = some (ex, S, ds', cs) → retM T S rs.toList = some (r, Blk.typed M.e M.c xs') →
        (bodyOf fn).wp P (bodyPost P fn fun e w' => match e with | .returned rv => MutSim M w w' v r xs' rv | _ => False) { tmps := (v :: vs).toArray ++ Array.replicate (n - (v :: vs).toArray.size) undef, defers := [] } w := by
      intro S ex ds' hex hec hret
      have hcs := allEq_of hmet (evalC_told _ _ _ _ _ _ _ _ hec hall).1
      refine (evalC_sound hE fuel (bodyOf fn) _ H ex S ds' cs hl hec hcs).1 w _ _ _ _ hst _ fun c' a' hs' => ?_
      unfold retM at hret
      split at hret
      · rename_i p hp
        split at hret
        · rename_i id hgs
          split at hret
          · rename_i e1 c1 xs1 hblk
            simp only [Option.some.injEq, Prod.mk.injEq] at hret
            obtain ⟨hpr, hbk⟩ := hret
            rw [hbk] at hblk
            obtain ⟨ys, hys, hsim⟩ := results_list hT hs' fn.results.toList (by rw [hrs]; exact hp)
            have hone : ∃ y, ys = [y] ∧ VSim c' p y := by
              cases ys with
              | nil => simp [VSims] at hsim
              | cons y ys => cases ys with
                | nil => simp only [VSims, and_true] at hsim; exact ⟨y, rfl, hsim⟩
                | cons z zs => simp [VSims] at hsim
            obtain ⟨y, rfl, hy⟩ := hone
            have hrun : (results fn a'.tmps).run P c'.w = .ok y c'.w := by
              rw [results_eq]
              simp only [Array.mapM_eq_mapM_toList, Sem.run_bind, Sem.run_map, hys, Result.andThen_ok]
              rfl
            have hR : MutSim M w c'.w v r xs' y := by
              refine ⟨fun hpl' => VSim.plain hpl' (by rw [← hpr]; exact hy.unK), ?_, fun m hm hne => hs'.hs.fr m hm hne, hs'.hs.os, hs'.hs.tape, hs'.hs.output, hs'.hs.sz⟩
              rcases hs'.gh 0 (.own id) (by rw [hgs]; rfl) with h | ⟨v0, h1, h2⟩
              · cases h
              · have h1 : some v = some v0 := by simpa using h1
                cases h1
                simp only [VSim] at h2
                obtain ⟨_, us', ho', hS'⟩ := hs'.hs.blk id _ hblk
                rw [← h2.2.1] at ho'
                exact ⟨us', ho', hS'⟩
            rcases hex with rfl | rfl
            · exact ⟨hs'.df, y, hrun, hR⟩
            · exact ⟨hs'.df, y, hrun, hR⟩
          · cases hret
        · cases hret
      · cases hret
    unfold evalM at hev
    split at hev
    · rename_i S ds1 cs1 hec
      cases hret : retM T S rs.toList with
      | none => simp only [hret] at hev; cases hev
      | some r' => simp only [hret, Option.map_some, Option.some.injEq, Prod.mk.injEq] at hev; obtain ⟨rfl, rfl⟩ := hev; exact fin (.inl rfl) hec hret
    · rename_i S ds1 cs1 hec
      cases hret : retM T S rs.toList with
      | none => simp only [hret] at hev; cases hev
      | some r' => simp only [hret, Option.map_some, Option.some.injEq, Prod.mk.injEq] at hev; obtain ⟨rfl, rfl⟩ := hev; exact fin (.inr rfl) hec hret
    · cases hev

/-! ## Nil slices as arguments -/

/-- What is done to an argument: a nil slice is an empty one; a pointer's cells begin with its variable. -/
inductive NK where
  | none
  | slc (c : UC)
  | ptr (n : Nat)

def norm1 (i : Nat) : NK → PV → PV
  | .slc c, .nils => .vslc (i + 1) c []
  | .ptr n, .vcell cs j => .vcell ((cs.drop j).take n) 0
  | _, v => v

def norms : Nat → List NK → List PV → List PV
  | i, c :: cs, v :: vs => norm1 i c v :: norms (i + 1) cs vs
  | _, _, vs => vs

theorem norms_sim {w : World} {ar : Array Value} : ∀ {i : Nat} {cs : List NK} {ps : List PV} {vs : List Value}, (∀ j v, vs[j]? = some v → ar[i + j]? = some v) → VSims (argCx w ar) ps vs → VSims (argCx w ar) (norms i cs ps) vs
  | _, [], _, _, _, h => by simp only [norms]; exact h
  | _, _ :: _, [], _, _, h => by simp only [norms]; exact h
  | _, _ :: _, _ :: _, [], _, h => by simp [VSims] at h
  | i, c :: cs, p :: ps, v :: vs, hj, h => by
    simp only [VSims] at h
    simp only [norms, VSims]
    refine ⟨?_, norms_sim (fun j u hu => by rw [show i + 1 + j = i + (j + 1) from by omega]; exact hj (j + 1) u (by simpa using hu)) h.2⟩
    unfold norm1
    split
    · have h1 := h.1
      simp only [VSim] at h1
      subst h1
      simp only [VSim]
      refine ⟨fun k hk => ?_, none, 0, by simp, Nat.le_refl _, fun hne => absurd rfl hne⟩
      have : k = i := by omega
      subst this
      exact hj 0 _ (by simp)
    · have h1 := h.1
      simp only [VSim] at h1 ⊢
      obtain ⟨b, off, us, hv, hb, hc, hs⟩ := h1
      rename_i n xs m
      exact ⟨b, off + m, (us.drop m).take n, by rw [hv]; rfl, hb, hc.part m n, (VSims_iff _ _ _).2 ((((VSims_iff _ _ _).1 hs).drop m).take n)⟩
    · exact h.1

theorem con_norm {f : FuncId} {G : Con} (cs : List NK) (h : FunOK P f G.fn) : FunOK P f (Con.fn fun args => G (norms 0 cs args)) := by
  intro w args vs r hiv hr hv
  refine h w (norms 0 cs args) vs r hiv hr (norms_sim (fun j v hj => ?_) hv)
  rw [Nat.zero_add]
  simpa using hj

/-! ## Functions that write into a box -/

/-- The cells of a box, each slice bearing its place among the arguments and the cells behind them. -/
def tagC (k : Nat) : List PV → List PV
  | [] => []
  | .vslc _ c xs :: r => .vslc (k + 1) c xs :: tagC (k + 1) r
  | v :: r => v :: tagC (k + 1) r

def outC (k : Nat) : List PV → Option (List (Option PV))
  | [] => some []
  | p :: r => match outC (k + 1) r with
    | none => none
    | some os => match p with
      | .vslc t _ _ => bif Nat.beq t (k + 1) then some (none :: os) else none
      | p => bif p.unK.plain then some (some p.unK :: os) else none

def startB (cs ps : List PV) : St :=
  { tm := fun t => (lget (.ptr 0 0 :: ps) t).getD .junk, hp := fun i => bif Nat.beq i 0 then some (.cells (tagC (1 + ps.length) cs)) else none, nx := 1, gs := [.ptr 0 0] }

def retB (T : TT) (S : St) (rs : List ResultVar) (cs ps : List PV) : Option (PV × List (Option PV)) :=
  match resultsR T S rs with
  | some [p] => match S.gs with
    | [.ptr id 0] => match S.hp id with
      | some (.cells cs') => bif Nat.beq cs'.length cs.length then (match outC (1 + ps.length) cs' with
        | some out => bif p.unK.flatB then some (p.unK, out) else none
        | none => none) else none
      | _ => none
    | _ => none
  | _ => none

def evalB (E : Env) (fuel : Nat) (x : Code) (rs : List ResultVar) (cs ps : List PV) (ds : Hs) : Option ((PV × List (Option PV)) × Conds) :=
  match evalC E fuel x (startB cs ps) ds with
  | some (.normal, S, _, cs1) => (retB E.T S rs cs ps).map fun r => (r, cs1)
  | some (.ret, S, _, cs1) => (retB E.T S rs cs ps).map fun r => (r, cs1)
  | _ => none

def GivesB (E : Env) (fuel : Nat) (x : Code) (rs : List ResultVar) (cs ps : List PV) (H : Hs) (r : PV × List (Option PV)) : Prop :=
  ((evalB E fuel x rs cs ps H).map fun q => (q.1, met q.2)) = some (r, ((evalB E fuel x rs cs ps H).map fun q => said q.2).getD [])

def AgreeB {α : Type} (E : Env) (fuel : Nat) (x : Code) (rs : List ResultVar) (cs ps : List PV) (mk : α → PV × List (Option PV)) (l : List (Hs × α)) : Prop :=
  (l.map fun p => (evalB E fuel x rs cs ps p.1).map fun q => (q.1, met q.2)) = l.map fun p => some (mk p.2, ((evalB E fuel x rs cs ps p.1).map fun q => said q.2).getD [])

theorem AgreeB.gives {α : Type} {E : Env} {fuel : Nat} {x : Code} {rs : List ResultVar} {cs ps : List PV} {mk : α → PV × List (Option PV)} {t : DT α} (h : AgreeB E fuel x rs cs ps mk t.leaves) {a : α} (ha : t.get = some a) : ∃ H, AllH H ∧ GivesB E fuel x rs cs ps H (mk a) := by
  obtain ⟨H, h1, h2⟩ := DT.path ha
  have := List.map_inj_left.1 h (H, a) h2
  exact ⟨H, h1, this⟩

theorem agreeB_tot {α : Type} [Inhabited α] {E : Env} {fuel : Nat} {x : Code} {rs : List ResultVar} {cs ps : List PV} {mk : α → PV × List (Option PV)} {t : DT α} (h : AgreeB E fuel x rs cs ps mk t.leaves) (ht : t.tot = true) (r : PV × List (Option PV)) (hr : (DT.leaf (mk t.val)).get = some r) : ∃ H, AllH H ∧ GivesB E fuel x rs cs ps H r := by
  simp only [DT.get, Option.some.injEq] at hr
  subst hr
  exact h.gives (DT.get_ok (DT.tot_ok ht))

theorem agreeB_need {α : Type} [Inhabited α] {E : Env} {fuel : Nat} {x : Code} {rs : List ResultVar} {cs ps : List PV} {mk : α → PV × List (Option PV)} {t : DT α} (h : AgreeB E fuel x rs cs ps mk t.leaves) (r : PV × List (Option PV)) (hr : (DT.need t.ok (.leaf (mk t.val))).get = some r) : ∃ H, AllH H ∧ GivesB E fuel x rs cs ps H r := by
  cases hk : t.ok with
  | false => rw [hk] at hr; simp [DT.get] at hr
  | true =>
    rw [hk] at hr
    simp only [DT.get, Option.some.injEq] at hr
    subst hr
    exact h.gives (DT.get_ok hk)

theorem tagC_length : ∀ (cs : List PV) (k : Nat), (tagC k cs).length = cs.length
  | [], _ => rfl
  | p :: r, k => by cases p <;> simp only [tagC, List.length_cons, tagC_length r (k + 1)]

/-- Cells that bear their places. -/
theorem tagC_sim {c c' : Cx} (hw : c'.w = c.w) (hp : ∀ n, c.pr n → c'.pr n) : ∀ {k : Nat} {cs : List PV} {us : List Value}, (∀ j u, us[j]? = some u → c'.ar[k + j]? = some u) → (∀ p ∈ cs, p.plain = true ∨ ∃ t u xs, p = .vslc t u xs) → VSims c cs us → VSims c' (tagC k cs) us
  | _, [], [], _, _, _ => by simp only [tagC, VSims]
  | _, [], _ :: _, _, _, h => by simp [VSims] at h
  | _, _ :: _, [], _, _, h => by simp [VSims] at h
  | k, p :: ps, u :: us, hj, hc, h => by
    simp only [VSims] at h
    have ih := tagC_sim hw hp (k := k + 1) (cs := ps) (us := us) (fun j x hx => by have := hj (j + 1) x (by simpa using hx); rwa [show k + 1 + j = k + (j + 1) from by omega]) (fun q hq => hc q (List.mem_cons_of_mem _ hq)) h.2
    rcases hc p (List.mem_cons_self ..) with hpl | ⟨t, uc, xs, rfl⟩
    · have : tagC k (p :: ps) = p :: tagC (k + 1) ps := by cases p <;> first | rfl | (simp [PV.plain] at hpl)
      rw [this]
      simp only [VSims]
      exact ⟨VSim.plain hpl h.1, ih⟩
    · simp only [tagC, VSims]
      refine ⟨?_, ih⟩
      have h1 := h.1
      simp only [VSim] at h1 ⊢
      obtain ⟨_, a, m, hv, hm, hvw⟩ := h1
      refine ⟨fun i e => ?_, a, m, hv, hm, fun hne => ?_⟩
      · have : i = k := by omega
        subst this
        simpa using hj 0 u (by simp)
      · obtain ⟨g, off, ha, hg, vs, hcl, hS⟩ := hvw hne
        exact ⟨g, off, ha, hp g hg, vs, by rw [hw]; exact hcl, hS⟩

theorem outC_kept {c' : Cx} {arr0 : List Value} : ∀ {k : Nat} {cs : List PV} {out : List (Option PV)} {us vs : List Value}, us.length = cs.length → (∀ j u, us[j]? = some u → c'.ar[k + j]? = some u) → outC k cs = some out → VSims c' cs vs → Kept out us vs
  | _, [], out, [], vs, _, _, ho, h => by
    simp only [outC, Option.some.injEq] at ho
    subst ho
    cases vs with
    | nil => simp only [Kept]
    | cons _ _ => simp [VSims] at h
  | _, [], _, _ :: _, _, hl, _, _, _ => by simp at hl
  | _, _ :: _, _, [], _, hl, _, _, _ => by simp at hl
  | _, _ :: _, _, _ :: _, [], _, _, _, h => by simp [VSims] at h
  | k, p :: ps, out, u :: us, v :: vs, hl, hj, ho, h => by
    simp only [VSims] at h
    simp only [outC] at ho
    split at ho
    · cases ho
    · rename_i os hos
      have ih := outC_kept (arr0 := arr0) (us := us) (vs := vs) (by simpa using hl) (fun j x hx => by have := hj (j + 1) x (by simpa using hx); rwa [show k + 1 + j = k + (j + 1) from by omega]) hos h.2
      split at ho
      · rename_i t uc xs
        rw [cond_eq_ite] at ho
        split at ho
        · rename_i ht
          have ht := Nat.eq_of_beq_eq_true ht
          subst ht
          cases ho
          simp only [Kept]
          refine ⟨?_, ih⟩
          have h1 := h.1
          simp only [VSim] at h1
          have h2 := h1.1 k rfl
          have h3 := hj 0 u (by simp)
          rw [Nat.add_zero, h2] at h3
          exact Option.some.inj h3
        · cases ho
      · rw [cond_eq_ite] at ho
        split at ho
        · rename_i hpl
          cases ho
          simp only [Kept]
          exact ⟨fun _ => VSim.plain hpl h.1.unK, ih⟩
        · cases ho

theorem startB_sim {n : Nat} {w : World} {b : Nat} {arr : Array Value} {e : TypeId} {cs ps : List PV} {vs : List Value} (hiv : IvOK w) (hiv2 : ∀ n, IvD n → n ≠ b) (hn : vs.length + 1 ≤ n) (hb : w.heap[b]? = some (.cells arr e (0, 0))) (hcs : VSims (bxCx w b) cs arr.toList) (hcp : ∀ p ∈ cs, p.plain = true ∨ ∃ t u xs, p = .vslc t u xs) (hpp : ∀ p ∈ ps, p.plain = true ∨ ∃ u xs, p = .vslc 0 u xs) (hps : VSims (bxCx w b) ps vs) :
    Sim w (fun m => m = b) (.pointer (some ⟨b, 0, none⟩) :: vs ++ arr.toList).toArray n (startB cs ps) { w := w, pr := fun m => m < w.heap.size ∧ m ≠ b, φ := fun _ => .pointer (some ⟨b, 0, none⟩), K := fun n => n = 0, ar := (.pointer (some ⟨b, 0, none⟩) :: vs ++ arr.toList).toArray } { tmps := (.pointer (some ⟨b, 0, none⟩) :: vs).toArray ++ Array.replicate (n - (Value.pointer (some ⟨b, 0, none⟩) :: vs).toArray.size) undef, defers := [] } := by
  have hvl : vs.length = ps.length := ((VSims_iff _ _ _).1 hps).length.symm
  have hown : VSim { w := w, pr := fun m => m < w.heap.size ∧ m ≠ b, φ := fun _ => .pointer (some ⟨b, 0, none⟩), K := fun n => n = 0, ar := (.pointer (some ⟨b, 0, none⟩) :: vs ++ arr.toList).toArray } (.ptr 0 0) (.pointer (some ⟨b, 0, none⟩)) := by
    simp only [VSim]
    exact ⟨trivial, b, rfl, rfl⟩
  have hat : ∀ id bl, (startB cs ps).hp id = some bl → id = 0 ∧ bl = .cells (tagC (1 + ps.length) cs) := fun id bl h => by
    simp only [startB, cond_eq_ite] at h
    split at h
    · rename_i q
      cases h
      exact ⟨Nat.eq_of_beq_eq_true q, rfl⟩
    · cases h
  refine ⟨rfl, fun t => ?_, by simp; omega, rfl, ⟨fun id bl h => ?_, fun id bl m h hm => ?_, fun i j bi bj m hi hj _ _ => ?_, fun m _ _ => rfl, rfl, rfl, rfl, Nat.le_refl _, fun m h => h.1, hiv.1, fun n hn => ⟨hiv.2 n hn, hiv2 n hn⟩⟩, fun id h => ?_, fun i p h => ?_⟩
  · show VSim _ ((lget (.ptr 0 0 :: ps) t).getD .junk) _
    cases hg : lget (.ptr 0 0 :: ps) t with
    | none => simp only [Option.getD_none, VSim]
    | some p =>
      simp only [Option.getD_some]
      cases t with
      | zero =>
        simp only [lget, Option.some.injEq] at hg
        subst hg
        have h1 : ((.pointer (some ⟨b, 0, none⟩) :: vs).toArray ++ Array.replicate (n - (Value.pointer (some ⟨b, 0, none⟩) :: vs).toArray.size) undef)[0]? = some (.pointer (some ⟨b, 0, none⟩)) := by
          rw [Array.getElem?_append_left (by simp)]
          simp
        rw [Array.getD_eq_getD_getElem?, h1]
        exact hown
      | succ t =>
        have hg' : lget ps t = some p := by simpa [lget] using hg
        obtain ⟨y, hy, hs⟩ := ((VSims_iff _ _ _).1 hps).get t hg'
        have hlt : t < vs.length := (List.getElem?_eq_some_iff.1 hy).1
        have : ((.pointer (some ⟨b, 0, none⟩) :: vs).toArray ++ Array.replicate (n - (Value.pointer (some ⟨b, 0, none⟩) :: vs).toArray.size) undef).getD (t + 1) undef = y := by
          have h1 : ((.pointer (some ⟨b, 0, none⟩) :: vs).toArray ++ Array.replicate (n - (Value.pointer (some ⟨b, 0, none⟩) :: vs).toArray.size) undef)[t + 1]? = some y := by
            rw [Array.getElem?_append_left (by simp; omega)]
            simpa using hy
          rw [Array.getD_eq_getD_getElem?, h1]
          rfl
        rw [this]
        have hm : p ∈ ps := by rw [lget_eq] at hg'; exact List.mem_of_getElem? hg'
        rcases hpp p hm with hpl | ⟨u, xs, rfl⟩
        · exact VSim.plain hpl hs
        · simp only [VSim] at hs ⊢
          obtain ⟨_, a, m, hv, hm, hw⟩ := hs
          exact ⟨fun i e => (by cases e), a, m, hv, hm, hw⟩
  · obtain ⟨rfl, rfl⟩ := hat id bl h
    refine ⟨rfl, b, arr, e, rfl, hb, ?_⟩
    refine (show ∀ C : Cx, C.w = w → (∀ n, (n < w.heap.size ∧ n ≠ b) → C.pr n) → C.ar = (Value.pointer (some ⟨b, 0, none⟩) :: vs ++ arr.toList).toArray → VSims C (tagC (1 + ps.length) cs) arr.toList from fun C h1 h2 h3 => tagC_sim (c := bxCx w b) h1 h2 (fun j u hu => ?_) hcp hcs) _ rfl (fun n hn => hn) rfl
    rw [h3]
    have hlt := (List.getElem?_eq_some_iff.1 hu).1
    rw [List.getElem?_toArray, List.cons_append, show 1 + ps.length + j = (vs.length + j) + 1 from by omega, List.getElem?_cons_succ, List.getElem?_append_right (by omega), Nat.add_sub_cancel_left]
    exact hu
  · obtain ⟨rfl, rfl⟩ := hat id bl h
    simp only [blkOf, Option.some.injEq] at hm
    subst hm
    exact ⟨.inr rfl, fun hp => hp.2 rfl⟩
  · rw [(hat i bi hi).1, (hat j bj hj).1]
  · have h : id = 0 := h
    subst h
    exact Nat.zero_lt_one
  · cases i with
    | zero =>
      simp only [startB, lget, Option.some.injEq] at h
      subst h
      exact .inr ⟨_, by simp, hown⟩
    | succ i => simp [startB, lget] at h

/-- Cells and arguments of a box's contract: plain, or slices that bear no place. -/
def boxy : List PV → Bool
  | [] => true
  | .vslc 0 _ _ :: r => boxy r
  | v :: r => v.plain && boxy r

theorem boxy_mem : ∀ {ps : List PV}, boxy ps = true → ∀ p ∈ ps, p.plain = true ∨ ∃ u xs, p = .vslc 0 u xs
  | [], _, p, h => by cases h
  | q :: qs, h, p, hp => by
    have key : (q.plain = true ∨ ∃ u xs, q = .vslc 0 u xs) ∧ boxy qs = true := by
      cases q
      case vslc t u xs =>
        cases t with
        | zero => exact ⟨.inr ⟨_, _, rfl⟩, h⟩
        | succ t => simp [boxy, PV.plain] at h
      all_goals
        simp only [boxy, Bool.and_eq_true] at h
        exact ⟨.inl h.1, h.2⟩
    rcases List.mem_cons.1 hp with rfl | hp
    · exact key.1
    · exact boxy_mem key.2 p hp

theorem box_ok {Γ : Gam} {T : TT} {n : Nat} (hΓ : GamOK P Γ) (hT : TTOK P T) (hm : P.follows .mixedOrders = true) {f : FuncId} {fn : Func} (hf : P.funcs[f]? = some fn) (hb : fn.body.isSome = true) (hname : (fn.name == "runtime.NumGoroutine") = false) (hn : fn.ntmps = n) {rs : Array ResultVar} (hrs : fn.results = rs) {loops : Nat → Option LoopF} (hl : LoopsOK P ⟨Γ, T, n, loops⟩ (bodyOf fn)) {M : BCon} (fuel : Nat)
    (h : ∀ cs ps t, M cs ps = some t → (Nat.ble (ps.length + 1) n && boxy cs && boxy ps) = true ∧ ∀ r, t.get = some r → ∃ H, AllH H ∧ GivesB ⟨Γ, T, n, loops⟩ fuel (bodyOf fn) rs.toList cs ps H r) : BoxOK P f M := by
  have hb' : fn.body = some (bodyOf fn) := by unfold bodyOf; cases q : fn.body with
    | none => rw [q] at hb; cases hb
    | some x => rfl
  have hE : EnvOK P ⟨Γ, T, n, loops⟩ := ⟨hΓ, hT, hm⟩
  intro w b arr e cs ps vs t r out hiv hiv2 hheap hcs hF ht hfl hps
  obtain ⟨hlen, hag⟩ := h cs ps t hF
  simp only [Bool.and_eq_true] at hlen
  obtain ⟨⟨hlen, hbc⟩, hbp⟩ := hlen
  have hlen := Nat.le_of_ble_eq_true hlen
  have hvl : vs.length = ps.length := ((VSims_iff _ _ _).1 hps).length.symm
  have hcl : cs.length = arr.toList.length := ((VSims_iff _ _ _).1 hcs).length
  obtain ⟨H, hall, hg⟩ := hag _ ht
  unfold GivesB at hg
  cases hev : evalB ⟨Γ, T, n, loops⟩ fuel (bodyOf fn) rs.toList cs ps H with
  | none => simp only [hev] at hg; simp at hg
  | some q =>
    obtain ⟨qr, cq⟩ := q
    simp only [hev, Option.map_some, Option.getD_some, Option.some.injEq, Prod.mk.injEq] at hg
    obtain ⟨rfl, hmet⟩ := hg
    refine callsTo_of hf hb' hname (calls_of_wp hf hb' ?_)
    rw [hn]
    have hst := startB_sim (n := n) (ps := ps) hiv hiv2 (by omega) hheap hcs (fun p hp => (boxy_mem hbc p hp).imp (fun a => a) fun ⟨u, xs, h⟩ => ⟨0, u, xs, h⟩) (boxy_mem hbp) hps
    have fin : ∀ {S : St} {ex : Ex} {ds' : Hs}, (ex = .normal ∨ ex = .ret) → evalC ⟨Γ, T, n, loops⟩ fuel (bodyOf fn) (startB cs ps) H = some (ex, S, ds', cq) → retB T S rs.toList cs ps = some (r, out) →
        (bodyOf fn).wp P (bodyPost P fn fun e w' => match e with | .returned rv => BoxSim w w' b arr r out rv | _ => False) { tmps := (.pointer (some ⟨b, 0, none⟩) :: vs).toArray ++ Array.replicate (n - (Value.pointer (some ⟨b, 0, none⟩) :: vs).toArray.size) undef, defers := [] } w := by
      intro S ex ds' hex hec hret
      have hcs' := allEq_of hmet (evalC_told _ _ _ _ _ _ _ _ hec hall).1
      refine (evalC_sound hE fuel (bodyOf fn) _ H ex S ds' cq hl hec hcs').1 w _ _ _ _ hst _ fun c' a' hs' => ?_
      unfold retB at hret
      split at hret
      · rename_i p hp
        split at hret
        · rename_i id hgs
          split at hret
          · rename_i cs1 hblk
            rw [cond_eq_ite] at hret
            split at hret
            · rename_i hlen1
              have hlen1 := Nat.eq_of_beq_eq_true hlen1
              split at hret
              · rename_i out1 hout
                rw [cond_eq_ite] at hret
                split at hret
                · rename_i hfl1
                  simp only [Option.some.injEq, Prod.mk.injEq] at hret
                  obtain ⟨hpr, rfl⟩ := hret
                  obtain ⟨ys, hys, hsim⟩ := results_list hT hs' fn.results.toList (by rw [hrs]; exact hp)
                  have hone : ∃ y, ys = [y] ∧ VSim c' p y := by
                    cases ys with
                    | nil => simp [VSims] at hsim
                    | cons y ys => cases ys with
                      | nil => simp only [VSims, and_true] at hsim; exact ⟨y, rfl, hsim⟩
                      | cons z zs => simp [VSims] at hsim
                  obtain ⟨y, rfl, hy⟩ := hone
                  have hrun : (results fn a'.tmps).run P c'.w = .ok y c'.w := by
                    rw [results_eq]
                    simp only [Array.mapM_eq_mapM_toList, Sem.run_bind, Sem.run_map, hys, Result.andThen_ok]
                    rfl
                  have hR : BoxSim w c'.w b arr r out1 y := by
                    refine ⟨fun c2 => VSim.plainB hfl (by rw [← hpr]; exact hy.unK), ?_, fun m hm hne => hs'.hs.fr m hm hne, hs'.hs.os, hs'.hs.tape, hs'.hs.output, hs'.hs.sz⟩
                    rcases hs'.gh 0 (.ptr id 0) (by rw [hgs]; rfl) with h | ⟨v0, h1, h2⟩
                    · cases h
                    · have h1 : some (Value.pointer (some ⟨b, 0, none⟩)) = some v0 := by simpa using h1
                      cases h1
                      simp only [VSim] at h2
                      obtain ⟨_, b1, hf1, hv1⟩ := h2
                      cases hv1
                      obtain ⟨_, b2, arr2, e2, hf2, hheap2, hsim2⟩ := hs'.hs.blk id _ hblk
                      rw [hf1] at hf2
                      cases hf2
                      refine ⟨arr2, e2, hheap2, outC_kept (c' := c') (arr0 := []) (k := 1 + ps.length) (by rw [hlen1, hcl]) (fun j u hu => ?_) hout hsim2⟩
                      rw [hs'.ar']
                      have hlt := (List.getElem?_eq_some_iff.1 hu).1
                      rw [List.getElem?_toArray, List.cons_append, show 1 + ps.length + j = (vs.length + j) + 1 from by omega, List.getElem?_cons_succ, List.getElem?_append_right (by omega), Nat.add_sub_cancel_left]
                      exact hu
                  rcases hex with rfl | rfl
                  · exact ⟨hs'.df, y, hrun, hR⟩
                  · exact ⟨hs'.df, y, hrun, hR⟩
                · cases hret
              · cases hret
            · cases hret
          · cases hret
        · cases hret
      · cases hret
    unfold evalB at hev
    split at hev
    · rename_i S ds1 cs1 hec
      cases hret : retB T S rs.toList cs ps with
      | none => simp only [hret] at hev; cases hev
      | some r' => simp only [hret, Option.map_some, Option.some.injEq, Prod.mk.injEq] at hev; obtain ⟨rfl, rfl⟩ := hev; exact fin (.inl rfl) hec hret
    · rename_i S ds1 cs1 hec
      cases hret : retB T S rs.toList cs ps with
      | none => simp only [hret] at hev; cases hev
      | some r' => simp only [hret, Option.map_some, Option.some.injEq, Prod.mk.injEq] at hev; obtain ⟨rfl, rfl⟩ := hev; exact fin (.inr rfl) hec hret
    · cases hev

end
end Go.Proofs.Ytilfdpllleninaa
