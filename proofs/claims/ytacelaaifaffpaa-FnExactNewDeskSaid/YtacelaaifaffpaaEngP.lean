/- The engine, part P: functions that write into their first argument; arguments that are nil slices. -/
import Derived.Test.YtacelaaifaffpaaEngO
namespace Go.Proofs.Ytacelaaifaffpaa
set_option linter.unusedVariables false
set_option linter.unusedSimpArgs false

def startM (e : TypeId) (c : UC) (xs : List c.T) (ps : List PV) : St :=
  { tm := fun t => (lget (.own 0 :: ps) t).getD .junk, hp := fun i => bif Nat.beq i 0 then some (.typed e c xs) else none, nx := 1, gs := [.own 0] }

/-- The answer, and what the argument holds then. -/
def retM (T : TT) (S : St) (rs : List ResultVar) : Option (PV × Blk) :=
  match resultsR T S rs with
  | some [p] => match S.gs with
    | [.own id] => match S.hp id with
      | some (.typed e c xs) => some (p.unK, .typed e c xs)
      | _ => none
    | _ => none
  | _ => none

def evalM (E : Env) (fuel : Nat) (x : Code) (rs : List ResultVar) (e : TypeId) (c : UC) (xs : List c.T) (ps : List PV) (ds : Hs) : Option ((PV × Blk) × Conds) :=
  match evalC E fuel x (startM e c xs ps) ds with
  | some (.normal, S, _, cs) => (retM E.T S rs).map fun r => (r, cs)
  | some (.ret, S, _, cs) => (retM E.T S rs).map fun r => (r, cs)
  | _ => none

def GivesM (E : Env) (fuel : Nat) (x : Code) (rs : List ResultVar) (e : TypeId) (c : UC) (xs : List c.T) (ps : List PV) (H : Hs) (r : PV × List c.T) : Prop :=
  ((evalM E fuel x rs e c xs ps H).map fun q => (q.1, met q.2)) = some ((r.1, Blk.typed e c r.2), ((evalM E fuel x rs e c xs ps H).map fun q => said q.2).getD [])

def AgreeM {α : Type} (E : Env) (fuel : Nat) (x : Code) (rs : List ResultVar) (e : TypeId) (c : UC) (xs : List c.T) (ps : List PV) (mk : α → PV × List c.T) (l : List (Hs × α)) : Prop :=
  (l.map fun p => (evalM E fuel x rs e c xs ps p.1).map fun q => (q.1, met q.2)) = l.map fun p => some (((mk p.2).1, Blk.typed e c (mk p.2).2), ((evalM E fuel x rs e c xs ps p.1).map fun q => said q.2).getD [])

theorem AgreeM.gives {α : Type} {E : Env} {fuel : Nat} {x : Code} {rs : List ResultVar} {e : TypeId} {c : UC} {xs : List c.T} {ps : List PV} {mk : α → PV × List c.T} {t : DT α} (h : AgreeM E fuel x rs e c xs ps mk t.leaves) {a : α} (ha : t.get = some a) : ∃ H, AllH H ∧ GivesM E fuel x rs e c xs ps H (mk a) := by
  obtain ⟨H, h1, h2⟩ := DT.path ha
  have := List.map_inj_left.1 h (H, a) h2
  exact ⟨H, h1, this⟩

theorem agreeM_tot {α : Type} {E : Env} {fuel : Nat} {x : Code} {rs : List ResultVar} {e : TypeId} {c : UC} {xs : List c.T} {ps : List PV} {mk : α → PV × List c.T} {t : DT α} (h : AgreeM E fuel x rs e c xs ps mk t.leaves) (ht : t.tot = true) (r : PV × List c.T) (hr : (DT.leaf (mk t.val)).get = some r) : ∃ H, AllH H ∧ GivesM E fuel x rs e c xs ps H r := by
  simp only [DT.get, Option.some.injEq] at hr
  subst hr
  exact h.gives (DT.get_ok (DT.tot_ok ht))

theorem agreeM_need {α : Type} {E : Env} {fuel : Nat} {x : Code} {rs : List ResultVar} {e : TypeId} {c : UC} {xs : List c.T} {ps : List PV} {mk : α → PV × List c.T} {t : DT α} (h : AgreeM E fuel x rs e c xs ps mk t.leaves) (r : PV × List c.T) (hr : (DT.need t.ok (.leaf (mk t.val))).get = some r) : ∃ H, AllH H ∧ GivesM E fuel x rs e c xs ps H r := by
  cases hk : t.ok with
  | false => rw [hk] at hr; simp [DT.get] at hr
  | true =>
    rw [hk] at hr
    simp only [DT.get, Option.some.injEq] at hr
    subst hr
    exact h.gives (DT.get_ok hk)

/-- Answers of several forms. -/
theorem agree_forms {α : Type} {E : Env} {fuel : Nat} {x : Code} {rs : List ResultVar} {args : List PV} {mk : α → Ret} {t : DT α} (h : Agree E fuel x rs args mk t.leaves) {need : Bool} {t' : DT Ret} (hn : need = true → t.ok = true) (ht : t'.get = some (mk t.val)) (r : Ret) (hr : (DT.need need t').get = some r) : ∃ H, AllH H ∧ Gives E fuel x rs args H r := by
  cases need with
  | false => simp [DT.get] at hr
  | true =>
    simp only [DT.get] at hr
    rw [ht] at hr
    cases hr
    exact h.gives (DT.get_ok (hn rfl))

theorem agree_forms_tot {α : Type} {E : Env} {fuel : Nat} {x : Code} {rs : List ResultVar} {args : List PV} {mk : α → Ret} {t : DT α} (h : Agree E fuel x rs args mk t.leaves) {t' : DT Ret} (hn : t.tot = true) (ht : t'.get = some (mk t.val)) (r : Ret) (hr : t'.get = some r) : ∃ H, AllH H ∧ Gives E fuel x rs args H r := by
  rw [ht] at hr
  cases hr
  exact h.gives (DT.get_ok (DT.tot_ok hn))

section
variable {P : Program}

theorem startM_sim {n : Nat} {w : World} {e : TypeId} {c : UC} {xs : List c.T} {ps : List PV} {v : Value} {vs us : List Value} (hiv : IvOK w) (hiv2 : ∀ n, IvD n → blkOf v ≠ some n) (hn : vs.length + 1 ≤ n) (hpl : plains ps = true) (hps : VSims (argCx w #[]) ps vs) (ho : OwnsG w e c.size v xs.length us) (hS : All2 SSim (flat c xs) us) :
    Sim w (fun n => blkOf v = some n) (v :: vs).toArray n (startM e c xs ps) { w := w, pr := fun _ => False, φ := fun _ => v, K := fun n => n = 0, ar := (v :: vs).toArray } { tmps := (v :: vs).toArray ++ Array.replicate (n - (v :: vs).toArray.size) undef, defers := [] } := by
  have hown : VSim { w := w, pr := fun _ => False, φ := fun _ => v, K := fun n => n = 0, ar := (v :: vs).toArray } (.own 0) v := by
    simp only [VSim]
    refine ⟨trivial, trivial, ?_⟩
    rcases ho.2 with ⟨h, _⟩ | ⟨g, cap, cur, fz, h, _⟩
    · exact ⟨_, _, _, h⟩
    · exact ⟨_, _, _, h⟩
  have hat : ∀ id b, (startM e c xs ps).hp id = some b → id = 0 ∧ b = .typed e c xs := fun id b h => by
    simp only [startM, cond_eq_ite] at h
    split at h
    · rename_i q
      cases h
      exact ⟨Nat.eq_of_beq_eq_true q, rfl⟩
    · cases h
  refine ⟨rfl, fun t => ?_, by simp; omega, rfl, ⟨fun id b h => ?_, fun id b m h hm => ?_, fun i j bi bj m hi hj _ _ => ?_, fun m _ _ => rfl, rfl, rfl, rfl, Nat.le_refl _, fun m h => h.elim, hiv.1, fun n hn => ⟨hiv.2 n hn, hiv2 n hn⟩⟩, fun id h => ?_, fun i p h => ?_⟩
  · show VSim _ ((lget (.own 0 :: ps) t).getD .junk) _
    cases hg : lget (.own 0 :: ps) t with
    | none => simp only [Option.getD_none, VSim]
    | some p =>
      simp only [Option.getD_some]
      cases t with
      | zero =>
        simp only [lget, Option.some.injEq] at hg
        subst hg
        have h1 : ((v :: vs).toArray ++ Array.replicate (n - (v :: vs).toArray.size) undef)[0]? = some v := by
          rw [Array.getElem?_append_left (by simp)]
          simp
        rw [Array.getD_eq_getD_getElem?, h1]
        exact hown
      | succ t =>
        have hg' : lget ps t = some p := by simpa [lget] using hg
        obtain ⟨y, hy, hs⟩ := ((VSims_iff _ _ _).1 hps).get t hg'
        have hlt : t < vs.length := (List.getElem?_eq_some_iff.1 hy).1
        have : ((v :: vs).toArray ++ Array.replicate (n - (v :: vs).toArray.size) undef).getD (t + 1) undef = y := by
          have h1 : ((v :: vs).toArray ++ Array.replicate (n - (v :: vs).toArray.size) undef)[t + 1]? = some y := by
            rw [Array.getElem?_append_left (by simp; omega)]
            simpa using hy
          rw [Array.getD_eq_getD_getElem?, h1]
          rfl
        rw [this]
        have hm : p ∈ ps := by rw [lget_eq] at hg'; exact List.mem_of_getElem? hg'
        exact VSim.plain (plains_get hpl p hm) hs
  · obtain ⟨rfl, rfl⟩ := hat id b h
    exact ⟨rfl, us, ho, hS⟩
  · obtain ⟨rfl, rfl⟩ := hat id b h
    exact ⟨.inr hm, fun hp => hp⟩
  · rw [(hat i bi hi).1, (hat j bj hj).1]
  · have h : id = 0 := h
    subst h
    exact Nat.zero_lt_one
  · cases i with
    | zero =>
      simp only [startM, lget, Option.some.injEq] at h
      subst h
      exact .inr ⟨v, by simp, hown⟩
    | succ i => simp [startM, lget] at h

theorem mut_ok {Γ : Gam} {T : TT} {n : Nat} (hΓ : GamOK P Γ) (hT : TTOK P T) (hm : P.follows .mixedOrders = true) {f : FuncId} {fn : Func} (hf : P.funcs[f]? = some fn) (hb : fn.body.isSome = true) (hname : (fn.name == "runtime.NumGoroutine") = false) (hn : fn.ntmps = n) {rs : Array ResultVar} (hrs : fn.results = rs) {loops : Nat → Option LoopF} (hl : LoopsOK P ⟨Γ, T, n, loops⟩ (bodyOf fn)) {M : MCon} (fuel : Nat)
    (h : ∀ xs ps t, M.F xs ps = some t → Nat.ble (ps.length + 1) n = true ∧ ∀ r, t.get = some r → ∃ H, AllH H ∧ GivesM ⟨Γ, T, n, loops⟩ fuel (bodyOf fn) rs.toList M.e M.c xs ps H r) : MutOK P f M := by
  have hb' : fn.body = some (bodyOf fn) := by unfold bodyOf; cases q : fn.body with
    | none => rw [q] at hb; cases hb
    | some x => rfl
  have hE : EnvOK P ⟨Γ, T, n, loops⟩ := ⟨hΓ, hT, hm⟩
  intro w xs ps v vs us t r xs' hiv hiv2 hF ht hpl hrp hps ho hS
  obtain ⟨hlen, hag⟩ := h xs ps t hF
  have hlen := Nat.le_of_ble_eq_true hlen
  have hvl : vs.length = ps.length := ((VSims_iff _ _ _).1 hps).length.symm
  obtain ⟨H, hall, hg⟩ := hag _ ht
  unfold GivesM at hg
  cases hev : evalM ⟨Γ, T, n, loops⟩ fuel (bodyOf fn) rs.toList M.e M.c xs ps H with
  | none => simp only [hev] at hg; simp at hg
  | some q =>
    obtain ⟨qr, cs⟩ := q
    simp only [hev, Option.map_some, Option.getD_some, Option.some.injEq, Prod.mk.injEq] at hg
    obtain ⟨rfl, hmet⟩ := hg
    refine callsTo_of hf hb' hname (calls_of_wp hf hb' ?_)
    rw [hn]
    have hst := startM_sim (n := n) (e := M.e) hiv hiv2 (by omega) hpl hps ho hS
    have fin : ∀ {S : St} {ex : Ex} {ds' : Hs}, (ex = .normal ∨ ex = .ret) → evalC ⟨Γ, T, n, loops⟩ fuel (bodyOf fn) (startM M.e M.c xs ps) H = some (ex, S, ds', cs) → retM T S rs.toList = some (r, Blk.typed M.e M.c xs') →
        (bodyOf fn).wp P (bodyPost P fn fun e w' => match e with | .returned rv => MutSim M w w' v r xs' rv | _ => False) { tmps := (v :: vs).toArray ++ Array.replicate (n - (v :: vs).toArray.size) undef, defers := [] } w := by
      intro S ex ds' hex hec hret
      have hcs := allEq_of hmet (evalC_told _ _ _ _ _ _ _ _ hec hall).1
      refine (evalC_sound hE fuel (bodyOf fn) _ H ex S ds' cs hl hec hcs).1 w _ _ _ _ hst _ fun c' a' hs' => ?_
      unfold retM at hret
      split at hret
      · rename_i p hp
        split at hret
        · rename_i id hgs
          split at hret
          · rename_i e1 c1 xs1 hblk
            simp only [Option.some.injEq, Prod.mk.injEq] at hret
            obtain ⟨hpr, hbk⟩ := hret
            rw [hbk] at hblk
            obtain ⟨ys, hys, hsim⟩ := results_list hT hs' fn.results.toList (by rw [hrs]; exact hp)
            have hone : ∃ y, ys = [y] ∧ VSim c' p y := by
              cases ys with
              | nil => simp [VSims] at hsim
              | cons y ys => cases ys with
                | nil => simp only [VSims, and_true] at hsim; exact ⟨y, rfl, hsim⟩
                | cons z zs => simp [VSims] at hsim
            obtain ⟨y, rfl, hy⟩ := hone
            have hrun : (results fn a'.tmps).run P c'.w = .ok y c'.w := by
              rw [results_eq]
              simp only [Array.mapM_eq_mapM_toList, Sem.run_bind, Sem.run_map, hys, Result.andThen_ok]
              rfl
            have hR : MutSim M w c'.w v r xs' y := by
              refine ⟨fun hpl' => VSim.plain hpl' (by rw [← hpr]; exact hy.unK), ?_, fun m hm hne => hs'.hs.fr m hm hne, hs'.hs.os, hs'.hs.tape, hs'.hs.output, hs'.hs.sz⟩
              rcases hs'.gh 0 (.own id) (by rw [hgs]; rfl) with h | ⟨v0, h1, h2⟩
              · cases h
              · have h1 : some v = some v0 := by simpa using h1
                cases h1
                simp only [VSim] at h2
                obtain ⟨_, us', ho', hS'⟩ := hs'.hs.blk id _ hblk
                rw [← h2.2.1] at ho'
                exact ⟨us', ho', hS'⟩
            rcases hex with rfl | rfl
            · exact ⟨hs'.df, y, hrun, hR⟩
            · exact ⟨hs'.df, y, hrun, hR⟩
          · cases hret
        · cases hret
      · cases hret
    unfold evalM at hev
    split at hev
    · rename_i S ds1 cs1 hec
      cases hret : retM T S rs.toList with
      | none => simp only [hret] at hev; cases hev
      | some r' => simp only [hret, Option.map_some, Option.some.injEq, Prod.mk.injEq] at hev; obtain ⟨rfl, rfl⟩ := hev; exact fin (.inl rfl) hec hret
    · rename_i S ds1 cs1 hec
      cases hret : retM T S rs.toList with
      | none => simp only [hret] at hev; cases hev
      | some r' => simp only [hret, Option.map_some, Option.some.injEq, Prod.mk.injEq] at hev; obtain ⟨rfl, rfl⟩ := hev; exact fin (.inr rfl) hec hret
    · cases hev

/-! ## Nil slices as arguments -/

/-- What is done to an argument: a nil slice is an empty one; a pointer's cells begin with its variable. -/
inductive NK where
  | none
  | slc (c : UC)
  | ptr (n : Nat)

def norm1 (i : Nat) : NK → PV → PV
  | .slc c, .nils => .vslc (i + 1) c []
  | .ptr n, .vcell cs j => .vcell ((cs.drop j).take n) 0
  | _, v => v

def norms : Nat → List NK → List PV → List PV
  | i, c :: cs, v :: vs => norm1 i c v :: norms (i + 1) cs vs
  | _, _, vs => vs

theorem norms_sim {w : World} {ar : Array Value} : ∀ {i : Nat} {cs : List NK} {ps : List PV} {vs : List Value}, (∀ j v, vs[j]? = some v → ar[i + j]? = some v) → VSims (argCx w ar) ps vs → VSims (argCx w ar) (norms i cs ps) vs
  | _, [], _, _, _, h => by simp only [norms]; exact h
  | _, _ :: _, [], _, _, h => by simp only [norms]; exact h
  | _, _ :: _, _ :: _, [], _, h => by simp [VSims] at h
  | i, c :: cs, p :: ps, v :: vs, hj, h => by
    simp only [VSims] at h
    simp only [norms, VSims]
    refine ⟨?_, norms_sim (fun j u hu => by rw [show i + 1 + j = i + (j + 1) from by omega]; exact hj (j + 1) u (by simpa using hu)) h.2⟩
    unfold norm1
    split
    · have h1 := h.1
      simp only [VSim] at h1
      subst h1
      simp only [VSim]
      refine ⟨fun k hk => ?_, none, 0, by simp, Nat.le_refl _, fun hne => absurd rfl hne⟩
      have : k = i := by omega
      subst this
      exact hj 0 _ (by simp)
    · have h1 := h.1
      simp only [VSim] at h1 ⊢
      obtain ⟨b, off, us, hv, hb, hc, hs⟩ := h1
      rename_i n xs m
      exact ⟨b, off + m, (us.drop m).take n, by rw [hv]; rfl, hb, hc.part m n, (VSims_iff _ _ _).2 ((((VSims_iff _ _ _).1 hs).drop m).take n)⟩
    · exact h.1

theorem con_norm {f : FuncId} {G : Con} (cs : List NK) (h : FunOK P f G.fn) : FunOK P f (Con.fn fun args => G (norms 0 cs args)) := by
  intro w args vs r hiv hr hv
  refine h w (norms 0 cs args) vs r hiv hr (norms_sim (fun j v hj => ?_) hv)
  rw [Nat.zero_add]
  simpa using hj

end
end Go.Proofs.Ytacelaaifaffpaa
