/- The engine, part R: from a law's contract to its row. -/
import Derived.Test.YtilfdpllleninaaEngQ
import Derived.ProofKit
namespace Go.Proofs.Ytilfdpllleninaa
set_option linter.unusedVariables false
set_option linter.unusedSimpArgs false
open Go.ChangeShapes Go.WideShapes Go.RowKit

section
variable {H : Type} {enc : TypeId × Value → H} {P : Program}

/-- A contract's call, as the row asks for it. -/
theorem calls_of_fun {f : FuncId} {fn : Func} {x : Code} (hf : P.funcs[f]? = some fn) (hb : fn.body = some x) (hname : (fn.name == "runtime.NumGoroutine") = false) {vs : Array Value} {w : World} {R : Value → World → Prop} (h : CallsTo P f vs w R) :
    Calls P f vs w fun e w' => ∃ v, e = .returned v ∧ R v w' := by
  have hrun : (callFunc f vs).run P w = .ok (.enter f vs) w := by
    have hn' : ¬ fn.name = "runtime.NumGoroutine" := by simpa using hname
    simp [callFunc, hf, hn', hb]
  have key := h { dst := some 0, op := .ready 0, type := 0, pos := "", after := #[], guard := none } { tmps := #[undef], defers := [] } (fun a w' => ∃ v, a.tmps[0]? = some v ∧ R v w') (fun _ _ _ => False) (fun v w' hR => ⟨v, by simp [Act.put], hR⟩)
  rw [hrun, Oper.upon_enter] at key
  refine Calls.mono key fun e w' he => ?_
  cases e with
  | returned v =>
    obtain ⟨u, hu, hR⟩ := he
    simp [Act.put] at hu
    subst hu
    exact ⟨v, rfl, hR⟩
  | panicked c => exact he.elim
  | outgrown =>
    obtain ⟨_, _, h⟩ := he
    exact h.elim

theorem below_of_ret {w w' : World} {vs : Array Value} {r : Ret} {v : Value} (h : RetSim w w' vs r v) : Below w.heap.size w w' := by
  obtain ⟨pr, φ, _, hh⟩ := h
  exact ⟨hh.os, hh.tape, hh.output, hh.sz, fun k hk => hh.fr k hk (fun e => e)⟩

theorem trodAll_below (hl : laidOutB P = true) {W W' : World} (hb : Below W.heap.size W W') : ∀ {ts : List TypeId} {vs : List Value} {ds : List (DataW H)} {p : List MemPlace}, (ts.all fun t => P.readableRec t && decide (t < P.types.size)) = true →
    DataW.TrodAll enc P W 0 (fun _ => true) true ts vs ds p → (∀ x ∈ p, x.block < W.heap.size) → DataW.TrodAll enc P W' 0 (fun b => decide (b < W.heap.size)) true ts vs ds p
  | [], vs, ds, p, _, h, _ => by
    obtain ⟨rfl, rfl, rfl⟩ := trodAll_nil h
    exact trodAll_mk0
  | t :: ts, vs, ds, p, hts, h, hlt => by
    simp only [List.all_cons, Bool.and_eq_true, decide_eq_true_eq] at hts
    obtain ⟨v, vs', d, ds', p1, p2, rfl, rfl, rfl, h1, h2⟩ := trodAll_cons h
    have a := Below.trod hl hts.1.1 hts.1.2 h1 hb (fun x hx => hlt x (by simp [hx]))
    have b := trodAll_below hl hb (by simpa using hts.2) h2 (fun x hx => hlt x (by simp [hx]))
    exact ⟨p1, p2, a, b, rfl⟩

/-- What a row says of a call that answers true. -/
theorem post_law {f : Func} {s : ChangeSpec} {fresh handsOn : Bool} {W W' : World} {args : Array Value} {ds gs : List (DataW H)} {before : List MemPlace} {tb : TypeId} (hl : laidOutB P = true)
    (hW : DataW.Whole enc P f.params.toList s.vars false W args.toList ds gs before) (hvars : s.vars = []) (hrt : f.resultTypes = #[tb]) (htb : P.underlying tb = some .bool)
    (hts : (f.params.toList.all fun t => P.readableRec t && decide (t < P.types.size)) = true) (hfn : (s.fn H ds).results = [.lit (.bool true)] ∧ (s.fn H ds).args = ds ∧ (s.fn H ds).vars = [])
    {vs : Array Value} (hR : RetSim W W' vs ⟨.bool true, []⟩ (.bool true)) : s.post enc P f false fresh handsOn false W args (.bool true) W' := by
  have hb := below_of_ret hR
  have hlt : ∀ x ∈ before, x.block < W.heap.size := fun x hx => hW.lt x hx
  obtain ⟨p, q, hA, hV, hpq, hfz, hnd⟩ := hW
  rw [hvars] at hV
  obtain ⟨rfl, rfl⟩ := trodVars_none hV
  rw [List.append_nil] at hpq
  subst hpq
  refine ⟨ds, [], before, [], before, [], ⟨before, [], hA, by rw [hvars]; exact hV, by simp, hfz, hnd⟩, ?_, ?_, ?_, ?_, fun h => by cases h⟩
  · rw [List.append_nil, hfn.1, hrt]
    exact trodAll_mk1 (shut_bool htb true)
  · rw [List.append_nil, hfn.2.1]
    exact trodAll_below hl hb hts hA hlt
  · rw [List.append_nil, hfn.2.2, hvars]
    exact hV
  · refine ⟨hb.os, hb.output, fun i hi => ?_⟩
    rw [hb.block i hi]
    cases hq : W.heap[i]? with
    | none => simp
    | some o => cases o <;> simp

end
end Go.Proofs.Ytilfdpllleninaa
