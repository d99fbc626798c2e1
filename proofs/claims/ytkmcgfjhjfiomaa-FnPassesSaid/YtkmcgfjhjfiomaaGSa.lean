/- THE WALK, BY A PROGRAM: typed functions, and that the code is they. -/
import Derived.Test.YtkmcgfjhjfiomaaFrom
namespace Go.Proofs.Ytkmcgfjhjfiomaa
set_option linter.unusedVariables false
set_option linter.unusedSimpArgs false
open Go.Extern
noncomputable section

set_option maxRecDepth 100000 in
theorem math_Float64bits_ok : FunOK Try.prog 113 math_Float64bits_c.fn := bits64_ok (run_callFunc_extern Try.func113 (by kernel_rfl) (by kernel_rfl) (by kernel_rfl) (by kernel_rfl))

set_option maxRecDepth 100000 in
theorem math_Float64frombits_ok : FunOK Try.prog 112 math_Float64frombits_c.fn := frombits64_ok (run_callFunc_extern Try.func112 (by kernel_rfl) (by kernel_rfl) (by kernel_rfl) (by kernel_rfl))

set_option maxRecDepth 100000 in
theorem math_sqrt_ok : FunOK Try.prog 115 math_sqrt_c.fn := sqrt_ok (run_callFunc_extern Try.func115 (by kernel_rfl) (by kernel_rfl) (by kernel_rfl) (by kernel_rfl))

set_option maxRecDepth 100000 in
theorem math_archFloor_ok : FunOK Try.prog 116 math_archFloor_c.fn := floor_ok (run_callFunc_extern Try.func116 (by kernel_rfl) (by kernel_rfl) (by kernel_rfl) (by kernel_rfl))

set_option maxRecDepth 100000 in
theorem math_archTrunc_ok : FunOK Try.prog 131 math_archTrunc_c.fn := trunc_ok (run_callFunc_extern Try.func131 (by kernel_rfl) (by kernel_rfl) (by kernel_rfl) (by kernel_rfl))

/-- loop.example/g01284/laws.r8Long -/
def laws_r8Long_tree (a0 : List Int) (a1 : List Int) : DT (Bool) :=
  let x0 := ((List.length a0 : Nat) : Int);
  let x1 := decide (x0 > 48);
  .ask x1
  (
   .leaf true)
  (
   let x2 := ((List.length a1 : Nat) : Int);
   let x3 := decide (x2 > 48);
   .leaf x3)
def laws_r8Long (a0 : List Int) (a1 : List Int) : Bool := (laws_r8Long_tree a0 a1).val
def laws_r8Long_mk (p : Bool) : Ret := ⟨.bool p, []⟩
def laws_r8Long_c0 : Con := fun args => match args with
  | [.vslc 1 (.int .u8) a0, .vslc 2 (.int .u8) a1] => some (.leaf (laws_r8Long_mk (laws_r8Long a0 a1)))
  | _ => none
set_option maxRecDepth 100000 in
theorem laws_r8Long_ok0 : FunOK Try.prog 5 laws_r8Long_c0.fn := by
  refine con_ok (Γ := gam []) (gam_nil) tab_ok (by kernel_rfl) Try.func5 (by kernel_rfl) (by kernel_rfl) Try.ntmps5 Try.results5 (loopsOK_none rfl _) 100000 fun args t h => ?_
  unfold laws_r8Long_c0 at h
  split at h
  · rename_i a0 a1
    cases h
    exact ⟨rfl, agree_tot (mk := laws_r8Long_mk) (t := laws_r8Long_tree a0 a1) (by unfold Agree; kernel_rfl) (by kernel_rfl)⟩
  · cases h
def laws_r8Long_c : Con := fun args => laws_r8Long_c0 (norms 0 [.slc (.int .u8), .slc (.int .u8)] args)
set_option maxRecDepth 100000 in
theorem laws_r8Long_ok : FunOK Try.prog 5 laws_r8Long_c.fn := con_norm [.slc (.int .u8), .slc (.int .u8)] laws_r8Long_ok0

/-- loop.example/g01284/laws.r8At -/
def laws_r8At_tree (a0 : List Int) (a1 : Int) (a2 : Int) : DT (Int) :=
  let x0 := decide (a2 ≤ 1);
  .ask x0
  (
   .leaf 0)
  (
   let x1 := ((List.length a0 : Nat) : Int);
   let x2 := decide (a1 ≥ x1);
   .ask x2
   (
    .leaf 0)
   (
    .need ((decide (0 ≤ a1) && decide (a1 < ((List.length a0 : Nat) : Int)))) (
    let x3 := List.getD a0 (Int.toNat a1) default;
    let x4 := IntKind.wrap .i64 x3;
    .need ((a2 != 0)) (
    let x5 := Int.tmod x4 a2;
    .leaf x5))))
def laws_r8At (a0 : List Int) (a1 : Int) (a2 : Int) : Int := (laws_r8At_tree a0 a1 a2).val
def laws_r8At_need (a0 : List Int) (a1 : Int) (a2 : Int) : Bool := (laws_r8At_tree a0 a1 a2).ok
def laws_r8At_mk (p : Int) : Ret := ⟨.int .i64 p, []⟩
def laws_r8At_c0 : Con := fun args => match args with
  | [.vslc 1 (.int .u8) a0, .int .i64 a1, .int .i64 a2] => some (.need (laws_r8At_need a0 a1 a2) (.leaf (laws_r8At_mk (laws_r8At a0 a1 a2))))
  | _ => none
set_option maxRecDepth 100000 in
theorem laws_r8At_ok0 : FunOK Try.prog 6 laws_r8At_c0.fn := by
  refine con_ok (Γ := gam []) (gam_nil) tab_ok (by kernel_rfl) Try.func6 (by kernel_rfl) (by kernel_rfl) Try.ntmps6 Try.results6 (loopsOK_none rfl _) 100000 fun args t h => ?_
  unfold laws_r8At_c0 at h
  split at h
  · rename_i a0 a1 a2
    cases h
    exact ⟨rfl, agree_need (mk := laws_r8At_mk) (t := laws_r8At_tree a0 a1 a2) (by unfold Agree; kernel_rfl)⟩
  · cases h
def laws_r8At_c : Con := fun args => laws_r8At_c0 (norms 0 [.slc (.int .u8), .none, .none] args)
set_option maxRecDepth 100000 in
theorem laws_r8At_ok : FunOK Try.prog 6 laws_r8At_c.fn := con_norm [.slc (.int .u8), .none, .none] laws_r8At_ok0

/-- a loop of impl_turnsTo -/
def impl_turnsTo_loop0_step (p : List Bool × Bool) (s : Int × List Int) : Round (Int × List Int) (List Int) :=
  let x0 := ((List.length p.1 : Nat) : Int);
  let x1 := decide (s.1 < x0);
  .ask x1
  (
   .need ((decide (0 ≤ s.1) && decide (s.1 < ((List.length p.1 : Nat) : Int)))) (
   let x2 := List.getD p.1 (Int.toNat s.1) default;
   let x3 := (x2 == p.2);
   .ask x3
   (
    let x4 := IntKind.wrap .i64 (s.1 - 1);
    .need ((decide (0 ≤ x4) && decide (x4 < ((List.length p.1 : Nat) : Int)))) (
    let x5 := List.getD p.1 (Int.toNat x4) default;
    let x6 := (!(x5 == p.2));
    .ask x6
    (
     .need ((decide ((List.length s.2 + List.length [s.1]) * 8 ≤ 140737488355328) && decide (List.length s.2 + List.length [s.1] ≤ 9223372036854775807))) (
     let x7 := s.2 ++ [s.1];
     let x8 := IntKind.wrap .i64 (s.1 + 1);
     .leaf (.inl (x8, x7), [177])))
    (
     let x7 := IntKind.wrap .i64 (s.1 + 1);
     .leaf (.inl (x7, s.2), [0]))))
   (
    let x4 := IntKind.wrap .i64 (s.1 + 1);
    .leaf (.inl (x4, s.2), [0]))))
  (
   .leaf (.inr s.2, [0]))
def impl_turnsTo_loop0_L (p : List Bool × Bool) : LoopS (Int × List Int) (List Int) := { tl := fun s => [.vslc 1 .bool p.1, .bool p.2, .junk, .junk, .junk, .junk, .own 0, .int .i64 s.1], hl := fun s => [some (.typed 2 (.int .i64) s.2)], ex := fun r => .exit 0, otl := fun r => [.junk, .junk, .junk, .junk, .junk, .junk, .own 0], ohl := fun r => [some (.typed 2 (.int .i64) r)] }
def impl_turnsTo_loop0_ext : St → Option ((List Bool × Bool) × (Int × List Int) × List Nat) := fun S => match (S.tm 0).unK, (S.tm 1).unK, (S.tm 6).unK, (S.tm 7).unK with
  | .vslc 1 .bool q0, .bool q1, .own i0, .int .i64 q2 => (match S.hp i0 with
    | some (.typed 2 (.int .i64) q3) => some ((q0, q1), (q2, q3), [i0])
    | _ => none)
  | _, _, _, _ => none
def impl_turnsTo_loop0_post (p : List Bool × Bool) (r : List Int) : DT (Ex × St) := .leaf (.exit 0, LSt [.junk, .junk, .junk, .junk, .junk, .junk, .own 0] [some (.typed 2 (.int .i64) r)])
def impl_turnsTo_loop0 (p : List Bool × Bool) (s : Int × List Int) : List Int := loopVal (impl_turnsTo_loop0_step p) s
def impl_turnsTo_loop0_ends (p : List Bool × Bool) (s : Int × List Int) : Bool := loopEnds (impl_turnsTo_loop0_step p) s
def impl_turnsTo_loop0_F : LoopF := loopF impl_turnsTo_loop0_step impl_turnsTo_loop0_ext impl_turnsTo_loop0_post
set_option maxRecDepth 100000 in
theorem impl_turnsTo_loop0_hext : ∀ S p s fl, impl_turnsTo_loop0_ext S = some (p, s, fl) → Norm S fl ((impl_turnsTo_loop0_L p).tl s) ((impl_turnsTo_loop0_L p).hl s) (impl_turnsTo_loop0_L p).gl := by
  intro S p s fl h
  unfold impl_turnsTo_loop0_ext at h
  (repeat' split at h) <;> first
    | (cases h; constructor <;> simp_all [impl_turnsTo_loop0_L, keepT, keepH, rens, renH, PV.ren, Blk.ren, fOf, lget, nodup, natIn, lenEq, gtm, PV.unK])
    | cases h
set_option maxRecDepth 100000 in
theorem impl_turnsTo_loop0_hpost : ∀ p r e S', (impl_turnsTo_loop0_post p r).get = some (e, S') → e = (impl_turnsTo_loop0_L p).ex r ∧ S' = LSt ((impl_turnsTo_loop0_L p).otl r) ((impl_turnsTo_loop0_L p).ohl r) ((impl_turnsTo_loop0_L p).ogl r) := by
  intro p r e S' h
  unfold impl_turnsTo_loop0_post at h
  simp only [DT.get, Option.some.injEq, Prod.mk.injEq] at h; exact ⟨h.1.symm, h.2.symm⟩

def impl_turnsTo_loops : Nat → Option LoopF := loopTab [(5, impl_turnsTo_loop0_F)]
set_option maxRecDepth 100000 in
theorem impl_turnsTo_l0 : LoopOK Try.prog ⟨gam [], tab, 38, impl_turnsTo_loops⟩ (lp Try.f36 0) :=
  loopOK_some (F := impl_turnsTo_loop0_F) (by kernel_rfl) (loopF_ok (E := ⟨gam [], tab, 38, impl_turnsTo_loops⟩) ⟨gam_nil, tab_ok, by kernel_rfl⟩ (fuel := 100000) (loopsOK_list (l := []) (by kernel_rfl) trivial) (L := impl_turnsTo_loop0_L) (fun p s => by unfold AgreeL; exact ⟨by kernel_rfl, by kernel_rfl⟩) (fun _ _ h => Ex.noConfusion h) impl_turnsTo_loop0_hext impl_turnsTo_loop0_hpost)
/-- loop.example/g01284/impl.turnsTo -/
def impl_turnsTo_tree (a0 : List Bool) (a1 : Bool) : DT ((Unit) ⊕ (List Int)) :=
  let x0 := ((List.length a0 : Nat) : Int);
  let x1 := decide (x0 > 64);
  .ask x1
  (
   .leaf (.inl ()))
  (
   .need ((impl_turnsTo_loop0_ends (a0, a1) (1, []))) (
   let x2 := impl_turnsTo_loop0 (a0, a1) (1, []);
   .leaf (.inr x2)))
def impl_turnsTo (a0 : List Bool) (a1 : Bool) : (Unit) ⊕ (List Int) := (impl_turnsTo_tree a0 a1).val
def impl_turnsTo_need (a0 : List Bool) (a1 : Bool) : Bool := (impl_turnsTo_tree a0 a1).ok
def impl_turnsTo_mk0 (p : Unit) : Ret := ⟨.tup [.nils, .bool false], []⟩
def impl_turnsTo_mk1 (p : List Int) : Ret := ⟨.tup [.own 0, .bool true], [.typed 2 (.int .i64) p]⟩
def impl_turnsTo_mk : (Unit) ⊕ (List Int) → Ret := fun v => match v with
  | (.inl p) => impl_turnsTo_mk0 p
  | (.inr p) => impl_turnsTo_mk1 p
def impl_turnsTo_forms (v : (Unit) ⊕ (List Int)) : DT Ret := .ask (isL v) (.leaf (impl_turnsTo_mk0 (leftD v))) (.leaf (impl_turnsTo_mk1 (rightD v)))
theorem impl_turnsTo_forms_get : ∀ v, (impl_turnsTo_forms v).get = some (impl_turnsTo_mk v) := by
  intro v
  rcases v with v | v <;> rfl
def impl_turnsTo_c0 : Con := fun args => match args with
  | [.vslc 1 .bool a0, .bool a1] => some (.need (impl_turnsTo_need a0 a1) (impl_turnsTo_forms (impl_turnsTo a0 a1)))
  | _ => none
set_option maxRecDepth 100000 in
theorem impl_turnsTo_ok0 : FunOK Try.prog 36 impl_turnsTo_c0.fn := by
  refine con_ok (Γ := gam []) (gam_nil) tab_ok (by kernel_rfl) Try.func36 (by kernel_rfl) (by kernel_rfl) Try.ntmps36 Try.results36 (loops := impl_turnsTo_loops) (loopsOK_list (l := [lp Try.f36 0]) (by kernel_rfl) ⟨impl_turnsTo_l0, trivial⟩) 100000 fun args t h => ?_
  unfold impl_turnsTo_c0 at h
  split at h
  · rename_i a0 a1
    cases h
    exact ⟨rfl, agree_forms (mk := impl_turnsTo_mk) (t := impl_turnsTo_tree a0 a1) (by unfold Agree; kernel_rfl) (fun h => h) (impl_turnsTo_forms_get _)⟩
  · cases h
def impl_turnsTo_c : Con := fun args => impl_turnsTo_c0 (norms 0 [.slc .bool, .none] args)
set_option maxRecDepth 100000 in
theorem impl_turnsTo_ok : FunOK Try.prog 36 impl_turnsTo_c.fn := con_norm [.slc .bool, .none] impl_turnsTo_ok0

/-- loop.example/g01284/impl.RisesIn -/
def impl_RisesIn_tree (a0 : List Bool) : DT ((Unit) ⊕ (List Int)) :=
  .need ((impl_turnsTo_need a0 true)) (
  let x0 := impl_turnsTo a0 true;
  .ask ((isL x0))
  (
   .leaf (.inl ()))
  (
   .leaf (.inr ((rightD x0)))))
def impl_RisesIn (a0 : List Bool) : (Unit) ⊕ (List Int) := (impl_RisesIn_tree a0).val
def impl_RisesIn_need (a0 : List Bool) : Bool := (impl_RisesIn_tree a0).ok
def impl_RisesIn_mk0 (p : Unit) : Ret := ⟨.tup [.nils, .bool false], []⟩
def impl_RisesIn_mk1 (p : List Int) : Ret := ⟨.tup [.own 0, .bool true], [.typed 2 (.int .i64) p]⟩
def impl_RisesIn_mk : (Unit) ⊕ (List Int) → Ret := fun v => match v with
  | (.inl p) => impl_RisesIn_mk0 p
  | (.inr p) => impl_RisesIn_mk1 p
def impl_RisesIn_forms (v : (Unit) ⊕ (List Int)) : DT Ret := .ask (isL v) (.leaf (impl_RisesIn_mk0 (leftD v))) (.leaf (impl_RisesIn_mk1 (rightD v)))
theorem impl_RisesIn_forms_get : ∀ v, (impl_RisesIn_forms v).get = some (impl_RisesIn_mk v) := by
  intro v
  rcases v with v | v <;> rfl
def impl_RisesIn_c0 : Con := fun args => match args with
  | [.vslc 1 .bool a0] => some (.need (impl_RisesIn_need a0) (impl_RisesIn_forms (impl_RisesIn a0)))
  | _ => none
set_option maxRecDepth 100000 in
theorem impl_RisesIn_ok0 : FunOK Try.prog 7 impl_RisesIn_c0.fn := by
  refine con_ok (Γ := gam [(36, impl_turnsTo_c)]) (gam_cons impl_turnsTo_ok (gam_nil)) tab_ok (by kernel_rfl) Try.func7 (by kernel_rfl) (by kernel_rfl) Try.ntmps7 Try.results7 (loopsOK_none rfl _) 100000 fun args t h => ?_
  unfold impl_RisesIn_c0 at h
  split at h
  · rename_i a0
    cases h
    exact ⟨rfl, agree_forms (mk := impl_RisesIn_mk) (t := impl_RisesIn_tree a0) (by unfold Agree; kernel_rfl) (fun h => h) (impl_RisesIn_forms_get _)⟩
  · cases h
def impl_RisesIn_c : Con := fun args => impl_RisesIn_c0 (norms 0 [.slc .bool] args)
set_option maxRecDepth 100000 in
theorem impl_RisesIn_ok : FunOK Try.prog 7 impl_RisesIn_c.fn := con_norm [.slc .bool] impl_RisesIn_ok0

/-- loop.example/g01284/impl.SetsIn -/
def impl_SetsIn_tree (a0 : List Bool) : DT ((Unit) ⊕ (List Int)) :=
  .need ((impl_turnsTo_need a0 false)) (
  let x0 := impl_turnsTo a0 false;
  .ask ((isL x0))
  (
   .leaf (.inl ()))
  (
   .leaf (.inr ((rightD x0)))))
def impl_SetsIn (a0 : List Bool) : (Unit) ⊕ (List Int) := (impl_SetsIn_tree a0).val
def impl_SetsIn_need (a0 : List Bool) : Bool := (impl_SetsIn_tree a0).ok
def impl_SetsIn_mk0 (p : Unit) : Ret := ⟨.tup [.nils, .bool false], []⟩
def impl_SetsIn_mk1 (p : List Int) : Ret := ⟨.tup [.own 0, .bool true], [.typed 2 (.int .i64) p]⟩
def impl_SetsIn_mk : (Unit) ⊕ (List Int) → Ret := fun v => match v with
  | (.inl p) => impl_SetsIn_mk0 p
  | (.inr p) => impl_SetsIn_mk1 p
def impl_SetsIn_forms (v : (Unit) ⊕ (List Int)) : DT Ret := .ask (isL v) (.leaf (impl_SetsIn_mk0 (leftD v))) (.leaf (impl_SetsIn_mk1 (rightD v)))
theorem impl_SetsIn_forms_get : ∀ v, (impl_SetsIn_forms v).get = some (impl_SetsIn_mk v) := by
  intro v
  rcases v with v | v <;> rfl
def impl_SetsIn_c0 : Con := fun args => match args with
  | [.vslc 1 .bool a0] => some (.need (impl_SetsIn_need a0) (impl_SetsIn_forms (impl_SetsIn a0)))
  | _ => none
set_option maxRecDepth 100000 in
theorem impl_SetsIn_ok0 : FunOK Try.prog 8 impl_SetsIn_c0.fn := by
  refine con_ok (Γ := gam [(36, impl_turnsTo_c)]) (gam_cons impl_turnsTo_ok (gam_nil)) tab_ok (by kernel_rfl) Try.func8 (by kernel_rfl) (by kernel_rfl) Try.ntmps8 Try.results8 (loopsOK_none rfl _) 100000 fun args t h => ?_
  unfold impl_SetsIn_c0 at h
  split at h
  · rename_i a0
    cases h
    exact ⟨rfl, agree_forms (mk := impl_SetsIn_mk) (t := impl_SetsIn_tree a0) (by unfold Agree; kernel_rfl) (fun h => h) (impl_SetsIn_forms_get _)⟩
  · cases h
def impl_SetsIn_c : Con := fun args => impl_SetsIn_c0 (norms 0 [.slc .bool] args)
set_option maxRecDepth 100000 in
theorem impl_SetsIn_ok : FunOK Try.prog 8 impl_SetsIn_c.fn := con_norm [.slc .bool] impl_SetsIn_ok0

/-- a loop of impl_LongestPass -/
def impl_LongestPass_loop0_step (p : List Bool × Int) (s : Int × Int × Int × Int) : Round (Int × Int × Int × Int) (Int × Int) :=
  let x0 := decide (s.2.2.2 < p.2);
  .ask x0
  (
   .need ((decide (0 ≤ s.2.2.2) && decide (s.2.2.2 < ((List.length p.1 : Nat) : Int)))) (
   let x1 := List.getD p.1 (Int.toNat s.2.2.2) default;
   .ask (!x1)
   (
    let x2 := IntKind.wrap .i64 (s.2.2.2 + 1);
    let x3 := IntKind.wrap .i64 (s.2.2.2 + 1);
    .leaf (.inl (s.1, s.2.1, x2, x3), []))
   (
    let x2 := IntKind.wrap .i64 (s.2.2.2 + 1);
    let x3 := IntKind.wrap .i64 (x2 - s.2.2.1);
    let x4 := decide (x3 > s.2.1);
    .ask x4
    (
     let x5 := IntKind.wrap .i64 (s.2.2.2 + 1);
     let x6 := IntKind.wrap .i64 (x5 - s.2.2.1);
     let x7 := IntKind.wrap .i64 (s.2.2.2 + 1);
     .leaf (.inl (s.2.2.1, x6, s.2.2.1, x7), []))
    (
     let x5 := IntKind.wrap .i64 (s.2.2.2 + 1);
     .leaf (.inl (s.1, s.2.1, s.2.2.1, x5), [])))))
  (
   .leaf (.inr (s.1, s.2.1), []))
def impl_LongestPass_loop0_L (p : List Bool × Int) : LoopS (Int × Int × Int × Int) (Int × Int) := { tl := fun s => [.junk, .junk, .junk, .junk, .junk, .int .i64 s.1, .int .i64 s.2.1, .int .i64 s.2.2.1, .junk, .junk, .junk, .junk, .junk, .vslc 1 .bool p.1, .int .i64 p.2, .int .i64 s.2.2.2], hl := fun s => [], ex := fun r => .exit 0, otl := fun r => [.junk, .junk, .junk, .junk, .junk, .int .i64 r.1, .int .i64 r.2], ohl := fun r => [] }
def impl_LongestPass_loop0_ext : St → Option ((List Bool × Int) × (Int × Int × Int × Int) × List Nat) := fun S => match (S.tm 5).unK, (S.tm 6).unK, (S.tm 7).unK, (S.tm 13).unK, (S.tm 14).unK, (S.tm 15).unK with
  | .int .i64 q0, .int .i64 q1, .int .i64 q2, .vslc 1 .bool q3, .int .i64 q4, .int .i64 q5 => some ((q3, q4), (q0, q1, q2, q5), [])
  | _, _, _, _, _, _ => none
def impl_LongestPass_loop0_post (p : List Bool × Int) (r : Int × Int) : DT (Ex × St) := .leaf (.exit 0, LSt [.junk, .junk, .junk, .junk, .junk, .int .i64 r.1, .int .i64 r.2] [])
def impl_LongestPass_loop0 (p : List Bool × Int) (s : Int × Int × Int × Int) : Int × Int := loopVal (impl_LongestPass_loop0_step p) s
def impl_LongestPass_loop0_ends (p : List Bool × Int) (s : Int × Int × Int × Int) : Bool := loopEnds (impl_LongestPass_loop0_step p) s
def impl_LongestPass_loop0_F : LoopF := loopF impl_LongestPass_loop0_step impl_LongestPass_loop0_ext impl_LongestPass_loop0_post
set_option maxRecDepth 100000 in
theorem impl_LongestPass_loop0_hext : ∀ S p s fl, impl_LongestPass_loop0_ext S = some (p, s, fl) → Norm S fl ((impl_LongestPass_loop0_L p).tl s) ((impl_LongestPass_loop0_L p).hl s) (impl_LongestPass_loop0_L p).gl := by
  intro S p s fl h
  unfold impl_LongestPass_loop0_ext at h
  (repeat' split at h) <;> first
    | (cases h; constructor <;> simp_all [impl_LongestPass_loop0_L, keepT, keepH, rens, renH, PV.ren, Blk.ren, fOf, lget, nodup, natIn, lenEq, gtm, PV.unK])
    | cases h
set_option maxRecDepth 100000 in
theorem impl_LongestPass_loop0_hpost : ∀ p r e S', (impl_LongestPass_loop0_post p r).get = some (e, S') → e = (impl_LongestPass_loop0_L p).ex r ∧ S' = LSt ((impl_LongestPass_loop0_L p).otl r) ((impl_LongestPass_loop0_L p).ohl r) ((impl_LongestPass_loop0_L p).ogl r) := by
  intro p r e S' h
  unfold impl_LongestPass_loop0_post at h
  simp only [DT.get, Option.some.injEq, Prod.mk.injEq] at h; exact ⟨h.1.symm, h.2.symm⟩

def impl_LongestPass_loops : Nat → Option LoopF := loopTab [(5, impl_LongestPass_loop0_F)]
set_option maxRecDepth 100000 in
theorem impl_LongestPass_l0 : LoopOK Try.prog ⟨gam [], tab, 40, impl_LongestPass_loops⟩ (lp Try.f9 0) :=
  loopOK_some (F := impl_LongestPass_loop0_F) (by kernel_rfl) (loopF_ok (E := ⟨gam [], tab, 40, impl_LongestPass_loops⟩) ⟨gam_nil, tab_ok, by kernel_rfl⟩ (fuel := 100000) (loopsOK_list (l := []) (by kernel_rfl) trivial) (L := impl_LongestPass_loop0_L) (fun p s => by unfold AgreeL; exact ⟨by kernel_rfl, by kernel_rfl⟩) (fun _ _ h => Ex.noConfusion h) impl_LongestPass_loop0_hext impl_LongestPass_loop0_hpost)
/-- loop.example/g01284/impl.LongestPass -/
def impl_LongestPass_tree (a0 : List Bool) : DT (Int × Int × Bool) :=
  let x0 := ((List.length a0 : Nat) : Int);
  let x1 := decide (x0 > 64);
  .ask x1
  (
   .leaf (0, 0, false))
  (
   let x2 := ((List.length a0 : Nat) : Int);
   .need ((impl_LongestPass_loop0_ends (a0, x2) (0, 0, 0, 0))) (
   let x3 := impl_LongestPass_loop0 (a0, x2) (0, 0, 0, 0);
   let x4 := (x3.2 == 0);
   .ask x4
   (
    .leaf (0, 0, false))
   (
    .leaf (x3.1, x3.2, true))))
def impl_LongestPass (a0 : List Bool) : Int × Int × Bool := (impl_LongestPass_tree a0).val
def impl_LongestPass_need (a0 : List Bool) : Bool := (impl_LongestPass_tree a0).ok
def impl_LongestPass_mk (p : Int × Int × Bool) : Ret := ⟨.tup [.int .i64 p.1, .int .i64 p.2.1, .bool p.2.2], []⟩
def impl_LongestPass_c0 : Con := fun args => match args with
  | [.vslc 1 .bool a0] => some (.need (impl_LongestPass_need a0) (.leaf (impl_LongestPass_mk (impl_LongestPass a0))))
  | _ => none
set_option maxRecDepth 100000 in
theorem impl_LongestPass_ok0 : FunOK Try.prog 9 impl_LongestPass_c0.fn := by
  refine con_ok (Γ := gam []) (gam_nil) tab_ok (by kernel_rfl) Try.func9 (by kernel_rfl) (by kernel_rfl) Try.ntmps9 Try.results9 (loops := impl_LongestPass_loops) (loopsOK_list (l := [lp Try.f9 0]) (by kernel_rfl) ⟨impl_LongestPass_l0, trivial⟩) 100000 fun args t h => ?_
  unfold impl_LongestPass_c0 at h
  split at h
  · rename_i a0
    cases h
    exact ⟨rfl, agree_need (mk := impl_LongestPass_mk) (t := impl_LongestPass_tree a0) (by unfold Agree; kernel_rfl)⟩
  · cases h
def impl_LongestPass_c : Con := fun args => impl_LongestPass_c0 (norms 0 [.slc .bool] args)
set_option maxRecDepth 100000 in
theorem impl_LongestPass_ok : FunOK Try.prog 9 impl_LongestPass_c.fn := con_norm [.slc .bool] impl_LongestPass_ok0

/-- (*loop.example/g01284/spec.l00Src).next -/
def spec_l00Src_next_tree (a0_0 : List Int) (a0_1 : Int) (a0_2 : Int) : DT (Int × Int × Int) :=
  let x0 := ((List.length a0_0 : Nat) : Int);
  let x1 := decide (a0_1 < x0);
  .ask x1
  (
   .need ((decide (0 ≤ a0_1) && decide (a0_1 < ((List.length a0_0 : Nat) : Int)))) (
   let x2 := List.getD a0_0 (Int.toNat a0_1) default;
   let x3 := IntKind.wrap .i64 x2;
   let x4 := IntKind.wrap .i64 (a0_1 + 1);
   let x5 := IntKind.wrap .u64 (a0_2 * 6364136223846793005);
   let x6 := IntKind.wrap .u64 x3;
   let x7 := IntKind.wrap .u64 (x5 + x6);
   let x8 := IntKind.wrap .u64 (x7 + 1442695040888963407);
   let x9 := ((List.length a0_0 : Nat) : Int);
   let x10 := decide (x4 ≤ x9);
   .ask x10
   (
    .leaf (x3, x4, x8))
   (
    .skip (
    let x11 := Int.fdiv x8 (2 ^ (min (Int.toNat 40) (IntKind.bits .u64)));
    let x12 := IntKind.wrap .u64 (BitVec.ofInt (IntKind.bits .u64) x11 &&& BitVec.ofInt (IntKind.bits .u64) 255).toNat;
    let x13 := IntKind.wrap .i64 x12;
    .leaf (x13, x4, x8)))))
  (
   let x2 := IntKind.wrap .i64 (a0_1 + 1);
   let x3 := IntKind.wrap .u64 (a0_2 * 6364136223846793005);
   let x4 := IntKind.wrap .u64 (x3 + 0);
   let x5 := IntKind.wrap .u64 (x4 + 1442695040888963407);
   let x6 := ((List.length a0_0 : Nat) : Int);
   let x7 := decide (x2 ≤ x6);
   .ask x7
   (
    .leaf (0, x2, x5))
   (
    .skip (
    let x8 := Int.fdiv x5 (2 ^ (min (Int.toNat 40) (IntKind.bits .u64)));
    let x9 := IntKind.wrap .u64 (BitVec.ofInt (IntKind.bits .u64) x8 &&& BitVec.ofInt (IntKind.bits .u64) 255).toNat;
    let x10 := IntKind.wrap .i64 x9;
    .leaf (x10, x2, x5))))
def spec_l00Src_next (a0_0 : List Int) (a0_1 : Int) (a0_2 : Int) : Int × Int × Int := (spec_l00Src_next_tree a0_0 a0_1 a0_2).val
def spec_l00Src_next_need (a0_0 : List Int) (a0_1 : Int) (a0_2 : Int) : Bool := (spec_l00Src_next_tree a0_0 a0_1 a0_2).ok
def spec_l00Src_next_mk (p : Int × Int × Int) : PV × List (Option PV) := (.int .i64 p.1, [none, some (.int .i64 p.2.1), some (.int .u64 p.2.2)])
def spec_l00Src_next_M : BCon := fun cs ps => match cs, ps with
  | [.vslc 0 (.int .u8) a0_0, .int .i64 a0_1, .int .u64 a0_2], [] => some (.need (spec_l00Src_next_need a0_0 a0_1 a0_2) (.leaf (spec_l00Src_next_mk (spec_l00Src_next a0_0 a0_1 a0_2))))
  | _, _ => none
set_option maxRecDepth 100000 in
theorem spec_l00Src_next_ok : BoxOK Try.prog 79 spec_l00Src_next_M := by
  refine box_ok (Γ := gam []) (gam_nil) tab_ok (by kernel_rfl) Try.func79 (by kernel_rfl) (by kernel_rfl) Try.ntmps79 Try.results79 (loopsOK_none rfl _) 100000 fun cs ps t h => ?_
  unfold spec_l00Src_next_M at h
  split at h
  · rename_i a0_0 a0_1 a0_2
    cases h
    exact ⟨rfl, agreeB_need (mk := spec_l00Src_next_mk) (t := spec_l00Src_next_tree a0_0 a0_1 a0_2) (by unfold AgreeB; kernel_rfl)⟩
  · cases h

/-- (*loop.example/g01284/spec.l00Src).pick -/
def spec_l00Src_pick_tree (a0_0 : List Int) (a0_1 : Int) (a0_2 : Int) (a1 : Int) : DT (Int × Int × Int) :=
  let x0 := decide (a1 ≤ 1);
  .ask x0
  (
   .leaf (0, a0_1, a0_2))
  (
   .need ((spec_l00Src_next_need a0_0 a0_1 a0_2)) (
   let x1 := spec_l00Src_next a0_0 a0_1 a0_2;
   let x2 := decide (a1 > 200);
   .ask x2
   (
    let x3 := IntKind.wrap .i64 (x1.1 * 256);
    .need ((spec_l00Src_next_need a0_0 x1.2.1 x1.2.2)) (
    let x4 := spec_l00Src_next a0_0 x1.2.1 x1.2.2;
    let x5 := IntKind.wrap .i64 (x3 + x4.1);
    .need ((a1 != 0)) (
    let x6 := Int.tmod x5 a1;
    .leaf (x6, x4.2.1, x4.2.2))))
   (
    .need ((a1 != 0)) (
    let x3 := Int.tmod x1.1 a1;
    .leaf (x3, x1.2.1, x1.2.2)))))
def spec_l00Src_pick (a0_0 : List Int) (a0_1 : Int) (a0_2 : Int) (a1 : Int) : Int × Int × Int := (spec_l00Src_pick_tree a0_0 a0_1 a0_2 a1).val
def spec_l00Src_pick_need (a0_0 : List Int) (a0_1 : Int) (a0_2 : Int) (a1 : Int) : Bool := (spec_l00Src_pick_tree a0_0 a0_1 a0_2 a1).ok
def spec_l00Src_pick_mk (p : Int × Int × Int) : PV × List (Option PV) := (.int .i64 p.1, [none, some (.int .i64 p.2.1), some (.int .u64 p.2.2)])
def spec_l00Src_pick_M : BCon := fun cs ps => match cs, ps with
  | [.vslc 0 (.int .u8) a0_0, .int .i64 a0_1, .int .u64 a0_2], [.int .i64 a1] => some (.need (spec_l00Src_pick_need a0_0 a0_1 a0_2 a1) (.leaf (spec_l00Src_pick_mk (spec_l00Src_pick a0_0 a0_1 a0_2 a1))))
  | _, _ => none
set_option maxRecDepth 100000 in
theorem spec_l00Src_pick_ok : BoxOK Try.prog 39 spec_l00Src_pick_M := by
  refine box_ok (Γ := gam [] [] [(79, spec_l00Src_next_M)] []) (gam_box spec_l00Src_next_ok (gam_nil)) tab_ok (by kernel_rfl) Try.func39 (by kernel_rfl) (by kernel_rfl) Try.ntmps39 Try.results39 (loopsOK_none rfl _) 100000 fun cs ps t h => ?_
  unfold spec_l00Src_pick_M at h
  split at h
  · rename_i a0_0 a0_1 a0_2 a1
    cases h
    exact ⟨rfl, agreeB_need (mk := spec_l00Src_pick_mk) (t := spec_l00Src_pick_tree a0_0 a0_1 a0_2 a1) (by unfold AgreeB; kernel_rfl)⟩
  · cases h

/-- loop.example/g01284/spec.l06DrawOk -/
def spec_l06DrawOk_tree (a0_0 : List Int) (a0_1 : Int) (a0_2 : Int) : DT (Ball × Int × Int) :=
  .need ((spec_l00Src_pick_need a0_0 a0_1 a0_2 8)) (
  let x0 := spec_l00Src_pick a0_0 a0_1 a0_2 8;
  let x1 := IntKind.wrap .i64 (1 + x0.1);
  let x2 := fofInt .f32 x1;
  let x3 := fdiv .f32 x2 1073741824;
  .need ((spec_l00Src_pick_need a0_0 x0.2.1 x0.2.2 8)) (
  let x4 := spec_l00Src_pick a0_0 x0.2.1 x0.2.2 8;
  let x5 := IntKind.wrap .i64 (1 + x4.1);
  let x6 := fofInt .f32 x5;
  let x7 := fdiv .f32 x6 1090519040;
  .need ((spec_l00Src_pick_need a0_0 x4.2.1 x4.2.2 17)) (
  let x8 := spec_l00Src_pick a0_0 x4.2.1 x4.2.2 17;
  let x9 := IntKind.wrap .i64 (x8.1 - 8);
  let x10 := fofInt .f32 x9;
  let x11 := fdiv .f32 x10 1115684864;
  .need ((spec_l00Src_pick_need a0_0 x8.2.1 x8.2.2 17)) (
  let x12 := spec_l00Src_pick a0_0 x8.2.1 x8.2.2 17;
  let x13 := IntKind.wrap .i64 (x12.1 - 8);
  let x14 := fofInt .f32 x13;
  let x15 := fdiv .f32 x14 1098907648;
  .leaf ((⟨x3, x7, x11, x15⟩ : Ball), x12.2.1, x12.2.2)))))
def spec_l06DrawOk (a0_0 : List Int) (a0_1 : Int) (a0_2 : Int) : Ball × Int × Int := (spec_l06DrawOk_tree a0_0 a0_1 a0_2).val
def spec_l06DrawOk_need (a0_0 : List Int) (a0_1 : Int) (a0_2 : Int) : Bool := (spec_l06DrawOk_tree a0_0 a0_1 a0_2).ok
def spec_l06DrawOk_mk (p : Ball × Int × Int) : PV × List (Option PV) := (.agg [.flt .f32 p.1.Mass, .flt .f32 p.1.Radius, .flt .f32 p.1.Spin, .flt .f32 p.1.Start], [none, some (.int .i64 p.2.1), some (.int .u64 p.2.2)])
def spec_l06DrawOk_M : BCon := fun cs ps => match cs, ps with
  | [.vslc 0 (.int .u8) a0_0, .int .i64 a0_1, .int .u64 a0_2], [] => some (.need (spec_l06DrawOk_need a0_0 a0_1 a0_2) (.leaf (spec_l06DrawOk_mk (spec_l06DrawOk a0_0 a0_1 a0_2))))
  | _, _ => none
set_option maxRecDepth 100000 in
theorem spec_l06DrawOk_ok : BoxOK Try.prog 38 spec_l06DrawOk_M := by
  refine box_ok (Γ := gam [] [] [(39, spec_l00Src_pick_M)] []) (gam_box spec_l00Src_pick_ok (gam_nil)) tab_ok (by kernel_rfl) Try.func38 (by kernel_rfl) (by kernel_rfl) Try.ntmps38 Try.results38 (loopsOK_none rfl _) 100000 fun cs ps t h => ?_
  unfold spec_l06DrawOk_M at h
  split at h
  · rename_i a0_0 a0_1 a0_2
    cases h
    exact ⟨rfl, agreeB_need (mk := spec_l06DrawOk_mk) (t := spec_l06DrawOk_tree a0_0 a0_1 a0_2) (by unfold AgreeB; kernel_rfl)⟩
  · cases h

/-- loop.example/g01284/spec.R8Ball -/
def spec_R8Ball_tree (a0 : List Int) : DT (Ball) :=
  .need ((spec_l06DrawOk_need a0 0 0)) (
  let x0 := spec_l06DrawOk a0 0 0;
  .leaf ((⟨x0.1.Mass, x0.1.Radius, x0.1.Spin, x0.1.Start⟩ : Ball)))
def spec_R8Ball (a0 : List Int) : Ball := (spec_R8Ball_tree a0).val
def spec_R8Ball_need (a0 : List Int) : Bool := (spec_R8Ball_tree a0).ok
def spec_R8Ball_mk (p : Ball) : Ret := ⟨.agg [.flt .f32 p.Mass, .flt .f32 p.Radius, .flt .f32 p.Spin, .flt .f32 p.Start], []⟩
def spec_R8Ball_c0 : Con := fun args => match args with
  | [.vslc 1 (.int .u8) a0] => some (.need (spec_R8Ball_need a0) (.leaf (spec_R8Ball_mk (spec_R8Ball a0))))
  | _ => none
set_option maxRecDepth 100000 in
theorem spec_R8Ball_ok0 : FunOK Try.prog 10 spec_R8Ball_c0.fn := by
  refine con_ok (Γ := gam [] [] [(38, spec_l06DrawOk_M)] [(37, spec_l00From_M)]) (gam_box spec_l06DrawOk_ok (gam_new spec_l00From_ok (gam_nil))) tab_ok (by kernel_rfl) Try.func10 (by kernel_rfl) (by kernel_rfl) Try.ntmps10 Try.results10 (loopsOK_none rfl _) 100000 fun args t h => ?_
  unfold spec_R8Ball_c0 at h
  split at h
  · rename_i a0
    cases h
    exact ⟨rfl, agree_need (mk := spec_R8Ball_mk) (t := spec_R8Ball_tree a0) (by unfold Agree; kernel_rfl)⟩
  · cases h
def spec_R8Ball_c : Con := fun args => spec_R8Ball_c0 (norms 0 [.slc (.int .u8)] args)
set_option maxRecDepth 100000 in
theorem spec_R8Ball_ok : FunOK Try.prog 10 spec_R8Ball_c.fn := con_norm [.slc (.int .u8)] spec_R8Ball_ok0

/-- loop.example/g01284/spec.R8Orbit -/
def spec_R8Orbit_tree (a0 : List Int) : DT (Orbit) :=
  .need ((spec_l00Src_pick_need a0 0 0 9)) (
  let x0 := spec_l00Src_pick a0 0 0 9;
  let x1 := IntKind.wrap .i64 (4 + x0.1);
  let x2 := fofInt .f32 x1;
  let x3 := fdiv .f32 x2 1082130432;
  .need ((spec_l00Src_pick_need a0 x0.2.1 x0.2.2 6)) (
  let x4 := spec_l00Src_pick a0 x0.2.1 x0.2.2 6;
  let x5 := fofInt .f32 x4.1;
  let x6 := fdiv .f32 x5 1090519040;
  .need ((spec_l00Src_pick_need a0 x4.2.1 x4.2.2 9)) (
  let x7 := spec_l00Src_pick a0 x4.2.1 x4.2.2 9;
  let x8 := fofInt .f32 x7.1;
  let x9 := fdiv .f32 x8 1098907648;
  .need ((spec_l00Src_pick_need a0 x7.2.1 x7.2.2 16)) (
  let x10 := spec_l00Src_pick a0 x7.2.1 x7.2.2 16;
  let x11 := fofInt .f32 x10.1;
  let x12 := fdiv .f32 x11 1098907648;
  .need ((spec_l00Src_pick_need a0 x10.2.1 x10.2.2 16)) (
  let x13 := spec_l00Src_pick a0 x10.2.1 x10.2.2 16;
  let x14 := fofInt .f32 x13.1;
  let x15 := fdiv .f32 x14 1098907648;
  .need ((spec_l00Src_pick_need a0 x13.2.1 x13.2.2 16)) (
  let x16 := spec_l00Src_pick a0 x13.2.1 x13.2.2 16;
  let x17 := fofInt .f32 x16.1;
  let x18 := fdiv .f32 x17 1098907648;
  .leaf ((⟨x3, x6, x9, x12, x15, x18⟩ : Orbit))))))))
def spec_R8Orbit (a0 : List Int) : Orbit := (spec_R8Orbit_tree a0).val
def spec_R8Orbit_need (a0 : List Int) : Bool := (spec_R8Orbit_tree a0).ok
def spec_R8Orbit_mk (p : Orbit) : Ret := ⟨.agg [.flt .f32 p.Long, .flt .f32 p.Round, .flt .f32 p.Tilt, .flt .f32 p.Node, .flt .f32 p.Peri, .flt .f32 p.Phase], []⟩
def spec_R8Orbit_c0 : Con := fun args => match args with
  | [.vslc 1 (.int .u8) a0] => some (.need (spec_R8Orbit_need a0) (.leaf (spec_R8Orbit_mk (spec_R8Orbit a0))))
  | _ => none
set_option maxRecDepth 100000 in
theorem spec_R8Orbit_ok0 : FunOK Try.prog 11 spec_R8Orbit_c0.fn := by
  refine con_ok (Γ := gam [] [] [(39, spec_l00Src_pick_M)] [(37, spec_l00From_M)]) (gam_box spec_l00Src_pick_ok (gam_new spec_l00From_ok (gam_nil))) tab_ok (by kernel_rfl) Try.func11 (by kernel_rfl) (by kernel_rfl) Try.ntmps11 Try.results11 (loopsOK_none rfl _) 100000 fun args t h => ?_
  unfold spec_R8Orbit_c0 at h
  split at h
  · rename_i a0
    cases h
    exact ⟨rfl, agree_need (mk := spec_R8Orbit_mk) (t := spec_R8Orbit_tree a0) (by unfold Agree; kernel_rfl)⟩
  · cases h
def spec_R8Orbit_c : Con := fun args => spec_R8Orbit_c0 (norms 0 [.slc (.int .u8)] args)
set_option maxRecDepth 100000 in
theorem spec_R8Orbit_ok : FunOK Try.prog 11 spec_R8Orbit_c.fn := con_norm [.slc (.int .u8)] spec_R8Orbit_ok0

/-- math.IsNaN -/
def math_IsNaN_tree (a0 : Nat) : DT (Bool) :=
  let x0 := fne .f64 a0 a0;
  .leaf x0
def math_IsNaN (a0 : Nat) : Bool := (math_IsNaN_tree a0).val
def math_IsNaN_mk (p : Bool) : Ret := ⟨.bool p, []⟩
def math_IsNaN_c : Con := fun args => match args with
  | [.flt .f64 a0] => some (.leaf (math_IsNaN_mk (math_IsNaN a0)))
  | _ => none
set_option maxRecDepth 100000 in
theorem math_IsNaN_ok : FunOK Try.prog 110 math_IsNaN_c.fn := by
  refine con_ok (Γ := gam []) (gam_nil) tab_ok (by kernel_rfl) Try.func110 (by kernel_rfl) (by kernel_rfl) Try.ntmps110 Try.results110 (loopsOK_none rfl _) 100000 fun args t h => ?_
  unfold math_IsNaN_c at h
  split at h
  · rename_i a0
    cases h
    exact ⟨rfl, agree_tot (mk := math_IsNaN_mk) (t := math_IsNaN_tree a0) (by unfold Agree; kernel_rfl) (by kernel_rfl)⟩
  · cases h

/-- math.Abs -/
def math_Abs_tree (a0 : Nat) : DT (Nat) :=
  .ask ((isNaN .f64 a0))
  (
   .leaf 9221120237041090560)
  (
   let x0 := IntKind.wrap .u64 (BitVec.ofInt (IntKind.bits .u64) ((a0 : Nat) : Int) &&& ~~~ BitVec.ofInt (IntKind.bits .u64) 9223372036854775808).toNat;
   let x1 := canon .f64 (Int.toNat x0);
   .leaf x1)
def math_Abs (a0 : Nat) : Nat := (math_Abs_tree a0).val
def math_Abs_mk (p : Nat) : Ret := ⟨.flt .f64 p, []⟩
def math_Abs_c : Con := fun args => match args with
  | [.flt .f64 a0] => some (.leaf (math_Abs_mk (math_Abs a0)))
  | _ => none
set_option maxRecDepth 100000 in
theorem math_Abs_ok : FunOK Try.prog 84 math_Abs_c.fn := by
  refine con_ok (Γ := gam [(113, math_Float64bits_c), (112, math_Float64frombits_c)]) (gam_cons math_Float64bits_ok (gam_cons math_Float64frombits_ok (gam_nil))) tab_ok (by kernel_rfl) Try.func84 (by kernel_rfl) (by kernel_rfl) Try.ntmps84 Try.results84 (loopsOK_none rfl _) 100000 fun args t h => ?_
  unfold math_Abs_c at h
  split at h
  · rename_i a0
    cases h
    exact ⟨rfl, agree_tot (mk := math_Abs_mk) (t := math_Abs_tree a0) (by unfold Agree; kernel_rfl) (by kernel_rfl)⟩
  · cases h

/-- math.IsInf -/
def math_IsInf_tree (a0 : Nat) (a1 : Int) : DT (Bool) :=
  let x0 := (a1 == 0);
  .ask x0
  (
   let x1 := math_Abs a0;
   let x2 := fgt .f64 x1 9218868437227405311;
   .leaf x2)
  (
   let x1 := decide (a1 < 0);
   .ask x1
   (
    let x2 := fneg .f64 a0;
    let x3 := fgt .f64 x2 9218868437227405311;
    .leaf x3)
   (
    let x2 := fgt .f64 a0 9218868437227405311;
    .leaf x2))
def math_IsInf (a0 : Nat) (a1 : Int) : Bool := (math_IsInf_tree a0 a1).val
def math_IsInf_mk (p : Bool) : Ret := ⟨.bool p, []⟩
def math_IsInf_c : Con := fun args => match args with
  | [.flt .f64 a0, .int .i64 a1] => some (.leaf (math_IsInf_mk (math_IsInf a0 a1)))
  | _ => none
set_option maxRecDepth 100000 in
theorem math_IsInf_ok : FunOK Try.prog 111 math_IsInf_c.fn := by
  refine con_ok (Γ := gam [(84, math_Abs_c)]) (gam_cons math_Abs_ok (gam_nil)) tab_ok (by kernel_rfl) Try.func111 (by kernel_rfl) (by kernel_rfl) Try.ntmps111 Try.results111 (loopsOK_none rfl _) 100000 fun args t h => ?_
  unfold math_IsInf_c at h
  split at h
  · rename_i a0 a1
    cases h
    exact ⟨rfl, agree_tot (mk := math_IsInf_mk) (t := math_IsInf_tree a0 a1) (by unfold Agree; kernel_rfl) (by kernel_rfl)⟩
  · cases h

/-- loop.example/g01284/impl.finite -/
def impl_finite_tree (a0 : Nat) : DT (Bool) :=
  let x0 := math_IsNaN a0;
  .ask (!x0)
  (
   let x1 := math_IsInf a0 0;
   .leaf (!x1))
  (
   .leaf false)
def impl_finite (a0 : Nat) : Bool := (impl_finite_tree a0).val
def impl_finite_mk (p : Bool) : Ret := ⟨.bool p, []⟩
def impl_finite_c : Con := fun args => match args with
  | [.flt .f64 a0] => some (.leaf (impl_finite_mk (impl_finite a0)))
  | _ => none
set_option maxRecDepth 100000 in
theorem impl_finite_ok : FunOK Try.prog 82 impl_finite_c.fn := by
  refine con_ok (Γ := gam [(110, math_IsNaN_c), (111, math_IsInf_c)]) (gam_cons math_IsNaN_ok (gam_cons math_IsInf_ok (gam_nil))) tab_ok (by kernel_rfl) Try.func82 (by kernel_rfl) (by kernel_rfl) Try.ntmps82 Try.results82 (loopsOK_none rfl _) 100000 fun args t h => ?_
  unfold impl_finite_c at h
  split at h
  · rename_i a0
    cases h
    exact ⟨rfl, agree_tot (mk := impl_finite_mk) (t := impl_finite_tree a0) (by unfold Agree; kernel_rfl) (by kernel_rfl)⟩
  · cases h

/-- loop.example/g01284/impl.IsFinite -/
def impl_IsFinite_tree (a0 : Nat) : DT (Bool) :=
  .need ((fconvOk .f32 a0 .f64)) (
  let x0 := fconv .f32 a0 .f64;
  let x1 := impl_finite x0;
  .leaf x1)
def impl_IsFinite (a0 : Nat) : Bool := (impl_IsFinite_tree a0).val
def impl_IsFinite_need (a0 : Nat) : Bool := (impl_IsFinite_tree a0).ok
def impl_IsFinite_mk (p : Bool) : Ret := ⟨.bool p, []⟩
def impl_IsFinite_c : Con := fun args => match args with
  | [.flt .f32 a0] => some (.need (impl_IsFinite_need a0) (.leaf (impl_IsFinite_mk (impl_IsFinite a0))))
  | _ => none
set_option maxRecDepth 100000 in
theorem impl_IsFinite_ok : FunOK Try.prog 43 impl_IsFinite_c.fn := by
  refine con_ok (Γ := gam [(82, impl_finite_c)]) (gam_cons impl_finite_ok (gam_nil)) tab_ok (by kernel_rfl) Try.func43 (by kernel_rfl) (by kernel_rfl) Try.ntmps43 Try.results43 (loopsOK_none rfl _) 100000 fun args t h => ?_
  unfold impl_IsFinite_c at h
  split at h
  · rename_i a0
    cases h
    exact ⟨rfl, agree_need (mk := impl_IsFinite_mk) (t := impl_IsFinite_tree a0) (by unfold Agree; kernel_rfl)⟩
  · cases h

/-- loop.example/g01284/impl.aLength -/
def impl_aLength_tree (a0 : Nat) : DT (Bool) :=
  .need ((impl_IsFinite_need a0)) (
  let x0 := impl_IsFinite a0;
  .ask x0
  (
   let x1 := fgt .f32 a0 0;
   .leaf x1)
  (
   .leaf false))
def impl_aLength (a0 : Nat) : Bool := (impl_aLength_tree a0).val
def impl_aLength_need (a0 : Nat) : Bool := (impl_aLength_tree a0).ok
def impl_aLength_mk (p : Bool) : Ret := ⟨.bool p, []⟩
def impl_aLength_c : Con := fun args => match args with
  | [.flt .f32 a0] => some (.need (impl_aLength_need a0) (.leaf (impl_aLength_mk (impl_aLength a0))))
  | _ => none
set_option maxRecDepth 100000 in
theorem impl_aLength_ok : FunOK Try.prog 86 impl_aLength_c.fn := by
  refine con_ok (Γ := gam [(43, impl_IsFinite_c)]) (gam_cons impl_IsFinite_ok (gam_nil)) tab_ok (by kernel_rfl) Try.func86 (by kernel_rfl) (by kernel_rfl) Try.ntmps86 Try.results86 (loopsOK_none rfl _) 100000 fun args t h => ?_
  unfold impl_aLength_c at h
  split at h
  · rename_i a0
    cases h
    exact ⟨rfl, agree_need (mk := impl_aLength_mk) (t := impl_aLength_tree a0) (by unfold Agree; kernel_rfl)⟩
  · cases h

/-- a loop of impl_areLengths -/
def impl_areLengths_loop0_step (p : List Nat × Int) (s : Int) : Round (Int) ((Unit) ⊕ (Unit)) :=
  let x0 := decide (s < p.2);
  .ask x0
  (
   .need ((decide (0 ≤ s) && decide (s < ((List.length p.1 : Nat) : Int)))) (
   let x1 := List.getD p.1 (Int.toNat s) default;
   .need ((impl_aLength_need x1)) (
   let x2 := impl_aLength x1;
   .ask (!x2)
   (
    .leaf (.inr (.inl ()), []))
   (
    let x3 := IntKind.wrap .i64 (s + 1);
    .leaf (.inl x3, [])))))
  (
   .leaf (.inr (.inr ()), []))
def impl_areLengths_loop0_L (p : List Nat × Int) : LoopS (Int) ((Unit) ⊕ (Unit)) := { tl := fun s => [.junk, .junk, .junk, .junk, .junk, .vslc 1 (.flt .f32) p.1, .int .i64 p.2, .int .i64 s], hl := fun s => [], ex := fun r => match r with | .inl r => .ret | .inr r => .exit 0, otl := fun r => match r with | .inl r => [.junk, .junk, .bool false] | .inr r => [.junk], ohl := fun r => match r with | .inl r => [] | .inr r => [] }
def impl_areLengths_loop0_ext : St → Option ((List Nat × Int) × (Int) × List Nat) := fun S => match (S.tm 5).unK, (S.tm 6).unK, (S.tm 7).unK with
  | .vslc 1 (.flt .f32) q0, .int .i64 q1, .int .i64 q2 => some ((q0, q1), q2, [])
  | _, _, _ => none
def impl_areLengths_loop0_post (p : List Nat × Int) (r : (Unit) ⊕ (Unit)) : DT (Ex × St) := .ask (isL r) (.leaf (.ret, LSt [.junk, .junk, .bool false] [])) (.leaf (.exit 0, LSt [.junk] []))
def impl_areLengths_loop0 (p : List Nat × Int) (s : Int) : (Unit) ⊕ (Unit) := loopVal (impl_areLengths_loop0_step p) s
def impl_areLengths_loop0_ends (p : List Nat × Int) (s : Int) : Bool := loopEnds (impl_areLengths_loop0_step p) s
def impl_areLengths_loop0_F : LoopF := loopF impl_areLengths_loop0_step impl_areLengths_loop0_ext impl_areLengths_loop0_post
set_option maxRecDepth 100000 in
theorem impl_areLengths_loop0_hext : ∀ S p s fl, impl_areLengths_loop0_ext S = some (p, s, fl) → Norm S fl ((impl_areLengths_loop0_L p).tl s) ((impl_areLengths_loop0_L p).hl s) (impl_areLengths_loop0_L p).gl := by
  intro S p s fl h
  unfold impl_areLengths_loop0_ext at h
  (repeat' split at h) <;> first
    | (cases h; constructor <;> simp_all [impl_areLengths_loop0_L, keepT, keepH, rens, renH, PV.ren, Blk.ren, fOf, lget, nodup, natIn, lenEq, gtm, PV.unK])
    | cases h
set_option maxRecDepth 100000 in
theorem impl_areLengths_loop0_hpost : ∀ p r e S', (impl_areLengths_loop0_post p r).get = some (e, S') → e = (impl_areLengths_loop0_L p).ex r ∧ S' = LSt ((impl_areLengths_loop0_L p).otl r) ((impl_areLengths_loop0_L p).ohl r) ((impl_areLengths_loop0_L p).ogl r) := by
  intro p r e S' h
  unfold impl_areLengths_loop0_post at h
  cases r <;> (simp only [isL, DT.get, Option.some.injEq, Prod.mk.injEq] at h; exact ⟨h.1.symm, h.2.symm⟩)

def impl_areLengths_loops : Nat → Option LoopF := loopTab [(2, impl_areLengths_loop0_F)]
set_option maxRecDepth 100000 in
theorem impl_areLengths_l0 : LoopOK Try.prog ⟨gam [(86, impl_aLength_c)], tab, 15, impl_areLengths_loops⟩ (lp Try.f92 0) :=
  loopOK_some (F := impl_areLengths_loop0_F) (by kernel_rfl) (loopF_ok (E := ⟨gam [(86, impl_aLength_c)], tab, 15, impl_areLengths_loops⟩) ⟨gam_cons impl_aLength_ok (gam_nil), tab_ok, by kernel_rfl⟩ (fuel := 100000) (loopsOK_list (l := []) (by kernel_rfl) trivial) (L := impl_areLengths_loop0_L) (fun p s => by unfold AgreeL; exact ⟨by kernel_rfl, by kernel_rfl⟩) (fun _ r h => by cases r <;> exact Ex.noConfusion h) impl_areLengths_loop0_hext impl_areLengths_loop0_hpost)
/-- loop.example/g01284/impl.areLengths -/
def impl_areLengths_tree (a0 : List Nat) : DT (Bool) :=
  let x0 := ((List.length a0 : Nat) : Int);
  .need ((impl_areLengths_loop0_ends (a0, x0) 0)) (
  let x1 := impl_areLengths_loop0 (a0, x0) 0;
  .ask ((isL x1))
  (
   .leaf false)
  (
   .leaf true))
def impl_areLengths (a0 : List Nat) : Bool := (impl_areLengths_tree a0).val
def impl_areLengths_need (a0 : List Nat) : Bool := (impl_areLengths_tree a0).ok
def impl_areLengths_mk (p : Bool) : Ret := ⟨.bool p, []⟩
def impl_areLengths_c0 : Con := fun args => match args with
  | [.vslc 1 (.flt .f32) a0] => some (.need (impl_areLengths_need a0) (.leaf (impl_areLengths_mk (impl_areLengths a0))))
  | _ => none
set_option maxRecDepth 100000 in
theorem impl_areLengths_ok0 : FunOK Try.prog 92 impl_areLengths_c0.fn := by
  refine con_ok (Γ := gam [(86, impl_aLength_c)]) (gam_cons impl_aLength_ok (gam_nil)) tab_ok (by kernel_rfl) Try.func92 (by kernel_rfl) (by kernel_rfl) Try.ntmps92 Try.results92 (loops := impl_areLengths_loops) (loopsOK_list (l := [lp Try.f92 0]) (by kernel_rfl) ⟨impl_areLengths_l0, trivial⟩) 100000 fun args t h => ?_
  unfold impl_areLengths_c0 at h
  split at h
  · rename_i a0
    cases h
    exact ⟨rfl, agree_need (mk := impl_areLengths_mk) (t := impl_areLengths_tree a0) (by unfold Agree; kernel_rfl)⟩
  · cases h
def impl_areLengths_c : Con := fun args => impl_areLengths_c0 (norms 0 [.slc (.flt .f32)] args)
set_option maxRecDepth 100000 in
theorem impl_areLengths_ok : FunOK Try.prog 92 impl_areLengths_c.fn := con_norm [.slc (.flt .f32)] impl_areLengths_ok0

/-- loop.example/g01284/impl.areFinite$1 -/
def impl_areFinite_1_tree (a0 : Nat) : DT (Bool) :=
  .need ((impl_IsFinite_need a0)) (
  let x0 := impl_IsFinite a0;
  .leaf (!x0))
def impl_areFinite_1 (a0 : Nat) : Bool := (impl_areFinite_1_tree a0).val
def impl_areFinite_1_need (a0 : Nat) : Bool := (impl_areFinite_1_tree a0).ok
def impl_areFinite_1_mk (p : Bool) : Ret := ⟨.bool p, []⟩
def impl_areFinite_1_c : Con := fun args => match args with
  | [.flt .f32 a0] => some (.need (impl_areFinite_1_need a0) (.leaf (impl_areFinite_1_mk (impl_areFinite_1 a0))))
  | _ => none
set_option maxRecDepth 100000 in
theorem impl_areFinite_1_ok : FunOK Try.prog 98 impl_areFinite_1_c.fn := by
  refine con_ok (Γ := gam [(43, impl_IsFinite_c)]) (gam_cons impl_IsFinite_ok (gam_nil)) tab_ok (by kernel_rfl) Try.func98 (by kernel_rfl) (by kernel_rfl) Try.ntmps98 Try.results98 (loopsOK_none rfl _) 100000 fun args t h => ?_
  unfold impl_areFinite_1_c at h
  split at h
  · rename_i a0
    cases h
    exact ⟨rfl, agree_need (mk := impl_areFinite_1_mk) (t := impl_areFinite_1_tree a0) (by unfold Agree; kernel_rfl)⟩
  · cases h

/-- a loop of slices_IndexFunc___float32_float32__impl_areFinite_1 -/
def slices_IndexFunc___float32_float32__impl_areFinite_1_loop0_step (p : List Nat × Int) (s : Int) : Round (Int) ((Int) ⊕ (Unit)) :=
  let x0 := decide (s < p.2);
  .ask x0
  (
   .need ((decide (0 ≤ s) && decide (s < ((List.length p.1 : Nat) : Int)))) (
   let x1 := List.getD p.1 (Int.toNat s) default;
   .need ((impl_areFinite_1_need x1)) (
   let x2 := impl_areFinite_1 x1;
   .ask x2
   (
    .leaf (.inr (.inl s), []))
   (
    let x3 := IntKind.wrap .i64 (s + 1);
    .leaf (.inl x3, [])))))
  (
   .leaf (.inr (.inr ()), []))
def slices_IndexFunc___float32_float32__impl_areFinite_1_loop0_L (p : List Nat × Int) : LoopS (Int) ((Int) ⊕ (Unit)) := { tl := fun s => [.vslc 1 (.flt .f32) p.1, .func (.func 98) [] [], .junk, .junk, .junk, .junk, .junk, .int .i64 p.2, .int .i64 s], hl := fun s => [], ex := fun r => match r with | .inl r => .ret | .inr r => .exit 0, otl := fun r => match r with | .inl r => [.junk, .junk, .junk, .junk, .int .i64 r] | .inr r => [.junk], ohl := fun r => match r with | .inl r => [] | .inr r => [] }
def slices_IndexFunc___float32_float32__impl_areFinite_1_loop0_ext : St → Option ((List Nat × Int) × (Int) × List Nat) := fun S => match (S.tm 0).unK, (S.tm 1).unK, (S.tm 7).unK, (S.tm 8).unK with
  | .vslc 1 (.flt .f32) q0, .func (.func 98) [] [], .int .i64 q1, .int .i64 q2 => some ((q0, q1), q2, [])
  | _, _, _, _ => none
def slices_IndexFunc___float32_float32__impl_areFinite_1_loop0_post (p : List Nat × Int) (r : (Int) ⊕ (Unit)) : DT (Ex × St) := .ask (isL r) (.leaf (.ret, LSt [.junk, .junk, .junk, .junk, .int .i64 ((leftD r))] [])) (.leaf (.exit 0, LSt [.junk] []))
def slices_IndexFunc___float32_float32__impl_areFinite_1_loop0 (p : List Nat × Int) (s : Int) : (Int) ⊕ (Unit) := loopVal (slices_IndexFunc___float32_float32__impl_areFinite_1_loop0_step p) s
def slices_IndexFunc___float32_float32__impl_areFinite_1_loop0_ends (p : List Nat × Int) (s : Int) : Bool := loopEnds (slices_IndexFunc___float32_float32__impl_areFinite_1_loop0_step p) s
def slices_IndexFunc___float32_float32__impl_areFinite_1_loop0_F : LoopF := loopF slices_IndexFunc___float32_float32__impl_areFinite_1_loop0_step slices_IndexFunc___float32_float32__impl_areFinite_1_loop0_ext slices_IndexFunc___float32_float32__impl_areFinite_1_loop0_post
set_option maxRecDepth 100000 in
theorem slices_IndexFunc___float32_float32__impl_areFinite_1_loop0_hext : ∀ S p s fl, slices_IndexFunc___float32_float32__impl_areFinite_1_loop0_ext S = some (p, s, fl) → Norm S fl ((slices_IndexFunc___float32_float32__impl_areFinite_1_loop0_L p).tl s) ((slices_IndexFunc___float32_float32__impl_areFinite_1_loop0_L p).hl s) (slices_IndexFunc___float32_float32__impl_areFinite_1_loop0_L p).gl := by
  intro S p s fl h
  unfold slices_IndexFunc___float32_float32__impl_areFinite_1_loop0_ext at h
  (repeat' split at h) <;> first
    | (cases h; constructor <;> simp_all [slices_IndexFunc___float32_float32__impl_areFinite_1_loop0_L, keepT, keepH, rens, renH, PV.ren, Blk.ren, fOf, lget, nodup, natIn, lenEq, gtm, PV.unK])
    | cases h
set_option maxRecDepth 100000 in
theorem slices_IndexFunc___float32_float32__impl_areFinite_1_loop0_hpost : ∀ p r e S', (slices_IndexFunc___float32_float32__impl_areFinite_1_loop0_post p r).get = some (e, S') → e = (slices_IndexFunc___float32_float32__impl_areFinite_1_loop0_L p).ex r ∧ S' = LSt ((slices_IndexFunc___float32_float32__impl_areFinite_1_loop0_L p).otl r) ((slices_IndexFunc___float32_float32__impl_areFinite_1_loop0_L p).ohl r) ((slices_IndexFunc___float32_float32__impl_areFinite_1_loop0_L p).ogl r) := by
  intro p r e S' h
  unfold slices_IndexFunc___float32_float32__impl_areFinite_1_loop0_post at h
  cases r <;> (simp only [isL, DT.get, Option.some.injEq, Prod.mk.injEq] at h; exact ⟨h.1.symm, h.2.symm⟩)

def slices_IndexFunc___float32_float32__impl_areFinite_1_loops : Nat → Option LoopF := loopTab [(2, slices_IndexFunc___float32_float32__impl_areFinite_1_loop0_F)]
set_option maxRecDepth 100000 in
theorem slices_IndexFunc___float32_float32__impl_areFinite_1_l0 : LoopOK Try.prog ⟨gam [(98, impl_areFinite_1_c)], tab, 19, slices_IndexFunc___float32_float32__impl_areFinite_1_loops⟩ (lp Try.f124 0) :=
  loopOK_some (F := slices_IndexFunc___float32_float32__impl_areFinite_1_loop0_F) (by kernel_rfl) (loopF_ok (E := ⟨gam [(98, impl_areFinite_1_c)], tab, 19, slices_IndexFunc___float32_float32__impl_areFinite_1_loops⟩) ⟨gam_cons impl_areFinite_1_ok (gam_nil), tab_ok, by kernel_rfl⟩ (fuel := 100000) (loopsOK_list (l := []) (by kernel_rfl) trivial) (L := slices_IndexFunc___float32_float32__impl_areFinite_1_loop0_L) (fun p s => by unfold AgreeL; exact ⟨by kernel_rfl, by kernel_rfl⟩) (fun _ r h => by cases r <;> exact Ex.noConfusion h) slices_IndexFunc___float32_float32__impl_areFinite_1_loop0_hext slices_IndexFunc___float32_float32__impl_areFinite_1_loop0_hpost)
/-- slices.IndexFunc[[]float32,float32] -/
def slices_IndexFunc___float32_float32__impl_areFinite_1_tree (a0 : List Nat) : DT (Int) :=
  let x0 := ((List.length a0 : Nat) : Int);
  .need ((slices_IndexFunc___float32_float32__impl_areFinite_1_loop0_ends (a0, x0) 0)) (
  let x1 := slices_IndexFunc___float32_float32__impl_areFinite_1_loop0 (a0, x0) 0;
  .ask ((isL x1))
  (
   .leaf ((leftD x1)))
  (
   .leaf (-1)))
def slices_IndexFunc___float32_float32__impl_areFinite_1 (a0 : List Nat) : Int := (slices_IndexFunc___float32_float32__impl_areFinite_1_tree a0).val
def slices_IndexFunc___float32_float32__impl_areFinite_1_need (a0 : List Nat) : Bool := (slices_IndexFunc___float32_float32__impl_areFinite_1_tree a0).ok
def slices_IndexFunc___float32_float32__impl_areFinite_1_mk (p : Int) : Ret := ⟨.int .i64 p, []⟩
def slices_IndexFunc___float32_float32__impl_areFinite_1_c0 : Con := fun args => match args with
  | [.vslc 1 (.flt .f32) a0, .func (.func 98) [] []] => some (.need (slices_IndexFunc___float32_float32__impl_areFinite_1_need a0) (.leaf (slices_IndexFunc___float32_float32__impl_areFinite_1_mk (slices_IndexFunc___float32_float32__impl_areFinite_1 a0))))
  | _ => none
set_option maxRecDepth 100000 in
theorem slices_IndexFunc___float32_float32__impl_areFinite_1_ok0 : FunOK Try.prog 124 slices_IndexFunc___float32_float32__impl_areFinite_1_c0.fn := by
  refine con_ok (Γ := gam [(98, impl_areFinite_1_c)]) (gam_cons impl_areFinite_1_ok (gam_nil)) tab_ok (by kernel_rfl) Try.func124 (by kernel_rfl) (by kernel_rfl) Try.ntmps124 Try.results124 (loops := slices_IndexFunc___float32_float32__impl_areFinite_1_loops) (loopsOK_list (l := [lp Try.f124 0]) (by kernel_rfl) ⟨slices_IndexFunc___float32_float32__impl_areFinite_1_l0, trivial⟩) 100000 fun args t h => ?_
  unfold slices_IndexFunc___float32_float32__impl_areFinite_1_c0 at h
  split at h
  · rename_i a0
    cases h
    exact ⟨rfl, agree_need (mk := slices_IndexFunc___float32_float32__impl_areFinite_1_mk) (t := slices_IndexFunc___float32_float32__impl_areFinite_1_tree a0) (by unfold Agree; kernel_rfl)⟩
  · cases h
def slices_IndexFunc___float32_float32__impl_areFinite_1_c : Con := fun args => slices_IndexFunc___float32_float32__impl_areFinite_1_c0 (norms 0 [.slc (.flt .f32), .none] args)
set_option maxRecDepth 100000 in
theorem slices_IndexFunc___float32_float32__impl_areFinite_1_ok : FunOK Try.prog 124 slices_IndexFunc___float32_float32__impl_areFinite_1_c.fn := con_norm [.slc (.flt .f32), .none] slices_IndexFunc___float32_float32__impl_areFinite_1_ok0

/-- slices.ContainsFunc[[]float32,float32] -/
def slices_ContainsFunc___float32_float32__impl_areFinite_1_tree (a0 : List Nat) : DT (Bool) :=
  .need ((slices_IndexFunc___float32_float32__impl_areFinite_1_need a0 )) (
  let x0 := slices_IndexFunc___float32_float32__impl_areFinite_1 a0 ;
  let x1 := decide (x0 ≥ 0);
  .leaf x1)
def slices_ContainsFunc___float32_float32__impl_areFinite_1 (a0 : List Nat) : Bool := (slices_ContainsFunc___float32_float32__impl_areFinite_1_tree a0).val
def slices_ContainsFunc___float32_float32__impl_areFinite_1_need (a0 : List Nat) : Bool := (slices_ContainsFunc___float32_float32__impl_areFinite_1_tree a0).ok
def slices_ContainsFunc___float32_float32__impl_areFinite_1_mk (p : Bool) : Ret := ⟨.bool p, []⟩
def slices_ContainsFunc___float32_float32__impl_areFinite_1_c0 : Con := fun args => match args with
  | [.vslc 1 (.flt .f32) a0, .func (.func 98) [] []] => some (.need (slices_ContainsFunc___float32_float32__impl_areFinite_1_need a0) (.leaf (slices_ContainsFunc___float32_float32__impl_areFinite_1_mk (slices_ContainsFunc___float32_float32__impl_areFinite_1 a0))))
  | _ => none
set_option maxRecDepth 100000 in
theorem slices_ContainsFunc___float32_float32__impl_areFinite_1_ok0 : FunOK Try.prog 97 slices_ContainsFunc___float32_float32__impl_areFinite_1_c0.fn := by
  refine con_ok (Γ := gam [(124, slices_IndexFunc___float32_float32__impl_areFinite_1_c)]) (gam_cons slices_IndexFunc___float32_float32__impl_areFinite_1_ok (gam_nil)) tab_ok (by kernel_rfl) Try.func97 (by kernel_rfl) (by kernel_rfl) Try.ntmps97 Try.results97 (loopsOK_none rfl _) 100000 fun args t h => ?_
  unfold slices_ContainsFunc___float32_float32__impl_areFinite_1_c0 at h
  split at h
  · rename_i a0
    cases h
    exact ⟨rfl, agree_need (mk := slices_ContainsFunc___float32_float32__impl_areFinite_1_mk) (t := slices_ContainsFunc___float32_float32__impl_areFinite_1_tree a0) (by unfold Agree; kernel_rfl)⟩
  · cases h
def slices_ContainsFunc___float32_float32__impl_areFinite_1_c : Con := fun args => slices_ContainsFunc___float32_float32__impl_areFinite_1_c0 (norms 0 [.slc (.flt .f32), .none] args)
set_option maxRecDepth 100000 in
theorem slices_ContainsFunc___float32_float32__impl_areFinite_1_ok : FunOK Try.prog 97 slices_ContainsFunc___float32_float32__impl_areFinite_1_c.fn := con_norm [.slc (.flt .f32), .none] slices_ContainsFunc___float32_float32__impl_areFinite_1_ok0

/-- loop.example/g01284/impl.areFinite -/
def impl_areFinite_tree (a0 : List Nat) : DT (Bool) :=
  .need ((slices_ContainsFunc___float32_float32__impl_areFinite_1_need a0 )) (
  let x0 := slices_ContainsFunc___float32_float32__impl_areFinite_1 a0 ;
  .leaf (!x0))
def impl_areFinite (a0 : List Nat) : Bool := (impl_areFinite_tree a0).val
def impl_areFinite_need (a0 : List Nat) : Bool := (impl_areFinite_tree a0).ok
def impl_areFinite_mk (p : Bool) : Ret := ⟨.bool p, []⟩
def impl_areFinite_c0 : Con := fun args => match args with
  | [.vslc 1 (.flt .f32) a0] => some (.need (impl_areFinite_need a0) (.leaf (impl_areFinite_mk (impl_areFinite a0))))
  | _ => none
set_option maxRecDepth 100000 in
theorem impl_areFinite_ok0 : FunOK Try.prog 62 impl_areFinite_c0.fn := by
  refine con_ok (Γ := gam [(97, slices_ContainsFunc___float32_float32__impl_areFinite_1_c)]) (gam_cons slices_ContainsFunc___float32_float32__impl_areFinite_1_ok (gam_nil)) tab_ok (by kernel_rfl) Try.func62 (by kernel_rfl) (by kernel_rfl) Try.ntmps62 Try.results62 (loopsOK_none rfl _) 100000 fun args t h => ?_
  unfold impl_areFinite_c0 at h
  split at h
  · rename_i a0
    cases h
    exact ⟨rfl, agree_need (mk := impl_areFinite_mk) (t := impl_areFinite_tree a0) (by unfold Agree; kernel_rfl)⟩
  · cases h
def impl_areFinite_c : Con := fun args => impl_areFinite_c0 (norms 0 [.slc (.flt .f32)] args)
set_option maxRecDepth 100000 in
theorem impl_areFinite_ok : FunOK Try.prog 62 impl_areFinite_c.fn := con_norm [.slc (.flt .f32)] impl_areFinite_ok0

/-- loop.example/g01284/impl.ValidBall -/
def impl_ValidBall_tree (a0 : Ball) : DT (Bool) :=
  .need ((impl_areLengths_need ([a0.Mass, a0.Radius]))) (
  let x0 := impl_areLengths ([a0.Mass, a0.Radius]);
  .ask x0
  (
   .need ((impl_areFinite_need ([a0.Spin, a0.Start]))) (
   let x1 := impl_areFinite ([a0.Spin, a0.Start]);
   .leaf x1))
  (
   .leaf false))
def impl_ValidBall (a0 : Ball) : Bool := (impl_ValidBall_tree a0).val
def impl_ValidBall_need (a0 : Ball) : Bool := (impl_ValidBall_tree a0).ok
def impl_ValidBall_mk (p : Bool) : Ret := ⟨.bool p, []⟩
def impl_ValidBall_c : Con := fun args => match args with
  | [.agg [.flt .f32 a0_0, .flt .f32 a0_1, .flt .f32 a0_2, .flt .f32 a0_3]] => some (.need (impl_ValidBall_need (⟨a0_0, a0_1, a0_2, a0_3⟩ : Ball)) (.leaf (impl_ValidBall_mk (impl_ValidBall (⟨a0_0, a0_1, a0_2, a0_3⟩ : Ball)))))
  | _ => none
set_option maxRecDepth 100000 in
theorem impl_ValidBall_ok : FunOK Try.prog 52 impl_ValidBall_c.fn := by
  refine con_ok (Γ := gam [(92, impl_areLengths_c), (62, impl_areFinite_c)]) (gam_cons impl_areLengths_ok (gam_cons impl_areFinite_ok (gam_nil))) tab_ok (by kernel_rfl) Try.func52 (by kernel_rfl) (by kernel_rfl) Try.ntmps52 Try.results52 (loopsOK_none rfl _) 100000 fun args t h => ?_
  unfold impl_ValidBall_c at h
  split at h
  · rename_i a0_0 a0_1 a0_2 a0_3
    cases h
    exact ⟨rfl, agree_need (mk := impl_ValidBall_mk) (t := impl_ValidBall_tree (⟨a0_0, a0_1, a0_2, a0_3⟩ : Ball)) (by unfold Agree; kernel_rfl)⟩
  · cases h

/-- loop.example/g01284/impl.isTurn -/
def impl_isTurn_tree (a0 : Nat) : DT (Bool) :=
  let x0 := fge .f32 a0 0;
  .ask x0
  (
   let x1 := flt .f32 a0 1065353216;
   .leaf x1)
  (
   .leaf false)
def impl_isTurn (a0 : Nat) : Bool := (impl_isTurn_tree a0).val
def impl_isTurn_mk (p : Bool) : Ret := ⟨.bool p, []⟩
def impl_isTurn_c : Con := fun args => match args with
  | [.flt .f32 a0] => some (.leaf (impl_isTurn_mk (impl_isTurn a0)))
  | _ => none
set_option maxRecDepth 100000 in
theorem impl_isTurn_ok : FunOK Try.prog 107 impl_isTurn_c.fn := by
  refine con_ok (Γ := gam []) (gam_nil) tab_ok (by kernel_rfl) Try.func107 (by kernel_rfl) (by kernel_rfl) Try.ntmps107 Try.results107 (loopsOK_none rfl _) 100000 fun args t h => ?_
  unfold impl_isTurn_c at h
  split at h
  · rename_i a0
    cases h
    exact ⟨rfl, agree_tot (mk := impl_isTurn_mk) (t := impl_isTurn_tree a0) (by unfold Agree; kernel_rfl) (by kernel_rfl)⟩
  · cases h

/-- (loop.example/g01284/impl.Orbit).isEllipse -/
def impl_Orbit_isEllipse_tree (a0 : Orbit) : DT (Bool) :=
  let x0 := fgt .f32 a0.Long 0;
  .ask x0
  (
   let x1 := fge .f32 a0.Round 0;
   .ask x1
   (
    let x2 := flt .f32 a0.Round 1065353216;
    .ask x2
    (
     let x3 := impl_isTurn a0.Phase;
     .leaf x3)
    (
     .leaf false))
   (
    .leaf false))
  (
   .leaf false)
def impl_Orbit_isEllipse (a0 : Orbit) : Bool := (impl_Orbit_isEllipse_tree a0).val
def impl_Orbit_isEllipse_mk (p : Bool) : Ret := ⟨.bool p, []⟩
def impl_Orbit_isEllipse_c : Con := fun args => match args with
  | [.agg [.flt .f32 a0_0, .flt .f32 a0_1, .flt .f32 a0_2, .flt .f32 a0_3, .flt .f32 a0_4, .flt .f32 a0_5]] => some (.leaf (impl_Orbit_isEllipse_mk (impl_Orbit_isEllipse (⟨a0_0, a0_1, a0_2, a0_3, a0_4, a0_5⟩ : Orbit))))
  | _ => none
set_option maxRecDepth 100000 in
theorem impl_Orbit_isEllipse_ok : FunOK Try.prog 108 impl_Orbit_isEllipse_c.fn := by
  refine con_ok (Γ := gam [(107, impl_isTurn_c)]) (gam_cons impl_isTurn_ok (gam_nil)) tab_ok (by kernel_rfl) Try.func108 (by kernel_rfl) (by kernel_rfl) Try.ntmps108 Try.results108 (loopsOK_none rfl _) 100000 fun args t h => ?_
  unfold impl_Orbit_isEllipse_c at h
  split at h
  · rename_i a0_0 a0_1 a0_2 a0_3 a0_4 a0_5
    cases h
    exact ⟨rfl, agree_tot (mk := impl_Orbit_isEllipse_mk) (t := impl_Orbit_isEllipse_tree (⟨a0_0, a0_1, a0_2, a0_3, a0_4, a0_5⟩ : Orbit)) (by unfold Agree; kernel_rfl) (by kernel_rfl)⟩
  · cases h

/-- (loop.example/g01284/impl.Orbit).isBranch -/
def impl_Orbit_isBranch_tree (a0 : Orbit) : DT (Bool) :=
  let x0 := flt .f32 a0.Long 0;
  .ask x0
  (
   let x1 := fgt .f32 a0.Round 1065353216;
   .ask x1
   (
    let x2 := fge .f32 a0.Phase 3246391296;
    .ask x2
    (
     let x3 := fle .f32 a0.Phase 1098907648;
     .leaf x3)
    (
     .leaf false))
   (
    .leaf false))
  (
   .leaf false)
def impl_Orbit_isBranch (a0 : Orbit) : Bool := (impl_Orbit_isBranch_tree a0).val
def impl_Orbit_isBranch_mk (p : Bool) : Ret := ⟨.bool p, []⟩
def impl_Orbit_isBranch_c : Con := fun args => match args with
  | [.agg [.flt .f32 a0_0, .flt .f32 a0_1, .flt .f32 a0_2, .flt .f32 a0_3, .flt .f32 a0_4, .flt .f32 a0_5]] => some (.leaf (impl_Orbit_isBranch_mk (impl_Orbit_isBranch (⟨a0_0, a0_1, a0_2, a0_3, a0_4, a0_5⟩ : Orbit))))
  | _ => none
set_option maxRecDepth 100000 in
theorem impl_Orbit_isBranch_ok : FunOK Try.prog 109 impl_Orbit_isBranch_c.fn := by
  refine con_ok (Γ := gam []) (gam_nil) tab_ok (by kernel_rfl) Try.func109 (by kernel_rfl) (by kernel_rfl) Try.ntmps109 Try.results109 (loopsOK_none rfl _) 100000 fun args t h => ?_
  unfold impl_Orbit_isBranch_c at h
  split at h
  · rename_i a0_0 a0_1 a0_2 a0_3 a0_4 a0_5
    cases h
    exact ⟨rfl, agree_tot (mk := impl_Orbit_isBranch_mk) (t := impl_Orbit_isBranch_tree (⟨a0_0, a0_1, a0_2, a0_3, a0_4, a0_5⟩ : Orbit)) (by unfold Agree; kernel_rfl) (by kernel_rfl)⟩
  · cases h

/-- loop.example/g01284/impl.ValidOrbit -/
def impl_ValidOrbit_tree (a0 : Orbit) : DT (Bool) :=
  .need ((impl_areFinite_need ([a0.Long, a0.Round, a0.Tilt, a0.Node, a0.Peri, a0.Phase]))) (
  let x0 := impl_areFinite ([a0.Long, a0.Round, a0.Tilt, a0.Node, a0.Peri, a0.Phase]);
  .ask x0
  (
   let x1 := fge .f32 a0.Tilt 0;
   .ask x1
   (
    let x2 := fle .f32 a0.Tilt 1056964608;
    .ask x2
    (
     let x3 := impl_isTurn a0.Node;
     .ask x3
     (
      let x4 := impl_isTurn a0.Peri;
      .ask x4
      (
       let x5 := impl_Orbit_isEllipse (⟨a0.Long, a0.Round, a0.Tilt, a0.Node, a0.Peri, a0.Phase⟩ : Orbit);
       .ask x5
       (
        .leaf true)
       (
        let x6 := impl_Orbit_isBranch (⟨a0.Long, a0.Round, a0.Tilt, a0.Node, a0.Peri, a0.Phase⟩ : Orbit);
        .leaf x6))
      (
       .leaf false))
     (
      .leaf false))
    (
     .leaf false))
   (
    .leaf false))
  (
   .leaf false))
def impl_ValidOrbit (a0 : Orbit) : Bool := (impl_ValidOrbit_tree a0).val
def impl_ValidOrbit_need (a0 : Orbit) : Bool := (impl_ValidOrbit_tree a0).ok
def impl_ValidOrbit_mk (p : Bool) : Ret := ⟨.bool p, []⟩
def impl_ValidOrbit_c : Con := fun args => match args with
  | [.agg [.flt .f32 a0_0, .flt .f32 a0_1, .flt .f32 a0_2, .flt .f32 a0_3, .flt .f32 a0_4, .flt .f32 a0_5]] => some (.need (impl_ValidOrbit_need (⟨a0_0, a0_1, a0_2, a0_3, a0_4, a0_5⟩ : Orbit)) (.leaf (impl_ValidOrbit_mk (impl_ValidOrbit (⟨a0_0, a0_1, a0_2, a0_3, a0_4, a0_5⟩ : Orbit)))))
  | _ => none
set_option maxRecDepth 100000 in
theorem impl_ValidOrbit_ok : FunOK Try.prog 80 impl_ValidOrbit_c.fn := by
  refine con_ok (Γ := gam [(62, impl_areFinite_c), (107, impl_isTurn_c), (108, impl_Orbit_isEllipse_c), (109, impl_Orbit_isBranch_c)]) (gam_cons impl_areFinite_ok (gam_cons impl_isTurn_ok (gam_cons impl_Orbit_isEllipse_ok (gam_cons impl_Orbit_isBranch_ok (gam_nil))))) tab_ok (by kernel_rfl) Try.func80 (by kernel_rfl) (by kernel_rfl) Try.ntmps80 Try.results80 (loopsOK_none rfl _) 100000 fun args t h => ?_
  unfold impl_ValidOrbit_c at h
  split at h
  · rename_i a0_0 a0_1 a0_2 a0_3 a0_4 a0_5
    cases h
    exact ⟨rfl, agree_need (mk := impl_ValidOrbit_mk) (t := impl_ValidOrbit_tree (⟨a0_0, a0_1, a0_2, a0_3, a0_4, a0_5⟩ : Orbit)) (by unfold Agree; kernel_rfl)⟩
  · cases h

/-- loop.example/g01284/impl.within -/
def impl_within_tree (a0 : Int) (a1 : Int) (a2 : Int) : DT (Bool) :=
  let x0 := decide (a1 ≤ a0);
  .ask x0
  (
   let x1 := decide (a0 ≤ a2);
   .leaf x1)
  (
   .leaf false)
def impl_within (a0 : Int) (a1 : Int) (a2 : Int) : Bool := (impl_within_tree a0 a1 a2).val
def impl_within_mk (p : Bool) : Ret := ⟨.bool p, []⟩
def impl_within_c : Con := fun args => match args with
  | [.int .i64 a0, .int .i64 a1, .int .i64 a2] => some (.leaf (impl_within_mk (impl_within a0 a1 a2)))
  | _ => none
set_option maxRecDepth 100000 in
theorem impl_within_ok : FunOK Try.prog 81 impl_within_c.fn := by
  refine con_ok (Γ := gam []) (gam_nil) tab_ok (by kernel_rfl) Try.func81 (by kernel_rfl) (by kernel_rfl) Try.ntmps81 Try.results81 (loopsOK_none rfl _) 100000 fun args t h => ?_
  unfold impl_within_c at h
  split at h
  · rename_i a0 a1 a2
    cases h
    exact ⟨rfl, agree_tot (mk := impl_within_mk) (t := impl_within_tree a0 a1 a2) (by unfold Agree; kernel_rfl) (by kernel_rfl)⟩
  · cases h

/-- loop.example/g01284/impl.isTrack -/
def impl_isTrack_tree (a0 : Ball) (a1 : Orbit) (a2 : Nat) (a3 : Nat) (a4 : Int) : DT (Bool) :=
  .need ((impl_ValidBall_need (⟨a0.Mass, a0.Radius, a0.Spin, a0.Start⟩ : Ball))) (
  let x0 := impl_ValidBall (⟨a0.Mass, a0.Radius, a0.Spin, a0.Start⟩ : Ball);
  .ask x0
  (
   .need ((impl_ValidOrbit_need (⟨a1.Long, a1.Round, a1.Tilt, a1.Node, a1.Peri, a1.Phase⟩ : Orbit))) (
   let x1 := impl_ValidOrbit (⟨a1.Long, a1.Round, a1.Tilt, a1.Node, a1.Peri, a1.Phase⟩ : Orbit);
   .ask x1
   (
    .need ((impl_areFinite_need ([a2, a3]))) (
    let x2 := impl_areFinite ([a2, a3]);
    .ask x2
    (
     let x3 := impl_within a4 1 64;
     .leaf x3)
    (
     .leaf false)))
   (
    .leaf false)))
  (
   .leaf false))
def impl_isTrack (a0 : Ball) (a1 : Orbit) (a2 : Nat) (a3 : Nat) (a4 : Int) : Bool := (impl_isTrack_tree a0 a1 a2 a3 a4).val
def impl_isTrack_need (a0 : Ball) (a1 : Orbit) (a2 : Nat) (a3 : Nat) (a4 : Int) : Bool := (impl_isTrack_tree a0 a1 a2 a3 a4).ok
def impl_isTrack_mk (p : Bool) : Ret := ⟨.bool p, []⟩
def impl_isTrack_c : Con := fun args => match args with
  | [.agg [.flt .f32 a0_0, .flt .f32 a0_1, .flt .f32 a0_2, .flt .f32 a0_3], .agg [.flt .f32 a1_0, .flt .f32 a1_1, .flt .f32 a1_2, .flt .f32 a1_3, .flt .f32 a1_4, .flt .f32 a1_5], .flt .f32 a2, .flt .f32 a3, .int .i64 a4] => some (.need (impl_isTrack_need (⟨a0_0, a0_1, a0_2, a0_3⟩ : Ball) (⟨a1_0, a1_1, a1_2, a1_3, a1_4, a1_5⟩ : Orbit) a2 a3 a4) (.leaf (impl_isTrack_mk (impl_isTrack (⟨a0_0, a0_1, a0_2, a0_3⟩ : Ball) (⟨a1_0, a1_1, a1_2, a1_3, a1_4, a1_5⟩ : Orbit) a2 a3 a4))))
  | _ => none
set_option maxRecDepth 100000 in
theorem impl_isTrack_ok : FunOK Try.prog 40 impl_isTrack_c.fn := by
  refine con_ok (Γ := gam [(52, impl_ValidBall_c), (80, impl_ValidOrbit_c), (62, impl_areFinite_c), (81, impl_within_c)]) (gam_cons impl_ValidBall_ok (gam_cons impl_ValidOrbit_ok (gam_cons impl_areFinite_ok (gam_cons impl_within_ok (gam_nil))))) tab_ok (by kernel_rfl) Try.func40 (by kernel_rfl) (by kernel_rfl) Try.ntmps40 Try.results40 (loopsOK_none rfl _) 100000 fun args t h => ?_
  unfold impl_isTrack_c at h
  split at h
  · rename_i a0_0 a0_1 a0_2 a0_3 a1_0 a1_1 a1_2 a1_3 a1_4 a1_5 a2 a3 a4
    cases h
    exact ⟨rfl, agree_need (mk := impl_isTrack_mk) (t := impl_isTrack_tree (⟨a0_0, a0_1, a0_2, a0_3⟩ : Ball) (⟨a1_0, a1_1, a1_2, a1_3, a1_4, a1_5⟩ : Orbit) a2 a3 a4) (by unfold Agree; kernel_rfl)⟩
  · cases h

/-- (loop.example/g01284/impl.Orbit).isAround -/
def impl_Orbit_isAround_tree (a0 : Orbit) (a1 : Nat) : DT (Bool) :=
  .need ((impl_ValidOrbit_need (⟨a0.Long, a0.Round, a0.Tilt, a0.Node, a0.Peri, a0.Phase⟩ : Orbit))) (
  let x0 := impl_ValidOrbit (⟨a0.Long, a0.Round, a0.Tilt, a0.Node, a0.Peri, a0.Phase⟩ : Orbit);
  .ask x0
  (
   .need ((impl_aLength_need a1)) (
   let x1 := impl_aLength a1;
   .leaf x1))
  (
   .leaf false))
def impl_Orbit_isAround (a0 : Orbit) (a1 : Nat) : Bool := (impl_Orbit_isAround_tree a0 a1).val
def impl_Orbit_isAround_need (a0 : Orbit) (a1 : Nat) : Bool := (impl_Orbit_isAround_tree a0 a1).ok
def impl_Orbit_isAround_mk (p : Bool) : Ret := ⟨.bool p, []⟩
def impl_Orbit_isAround_c : Con := fun args => match args with
  | [.agg [.flt .f32 a0_0, .flt .f32 a0_1, .flt .f32 a0_2, .flt .f32 a0_3, .flt .f32 a0_4, .flt .f32 a0_5], .flt .f32 a1] => some (.need (impl_Orbit_isAround_need (⟨a0_0, a0_1, a0_2, a0_3, a0_4, a0_5⟩ : Orbit) a1) (.leaf (impl_Orbit_isAround_mk (impl_Orbit_isAround (⟨a0_0, a0_1, a0_2, a0_3, a0_4, a0_5⟩ : Orbit) a1))))
  | _ => none
set_option maxRecDepth 100000 in
theorem impl_Orbit_isAround_ok : FunOK Try.prog 45 impl_Orbit_isAround_c.fn := by
  refine con_ok (Γ := gam [(80, impl_ValidOrbit_c), (86, impl_aLength_c)]) (gam_cons impl_ValidOrbit_ok (gam_cons impl_aLength_ok (gam_nil))) tab_ok (by kernel_rfl) Try.func45 (by kernel_rfl) (by kernel_rfl) Try.ntmps45 Try.results45 (loopsOK_none rfl _) 100000 fun args t h => ?_
  unfold impl_Orbit_isAround_c at h
  split at h
  · rename_i a0_0 a0_1 a0_2 a0_3 a0_4 a0_5 a1
    cases h
    exact ⟨rfl, agree_need (mk := impl_Orbit_isAround_mk) (t := impl_Orbit_isAround_tree (⟨a0_0, a0_1, a0_2, a0_3, a0_4, a0_5⟩ : Orbit) a1) (by unfold Agree; kernel_rfl)⟩
  · cases h

/-- math.Sqrt -/
def math_Sqrt_tree (a0 : Nat) : DT (Nat) :=
  let x0 := fsqrt a0;
  .leaf x0
def math_Sqrt (a0 : Nat) : Nat := (math_Sqrt_tree a0).val
def math_Sqrt_mk (p : Nat) : Ret := ⟨.flt .f64 p, []⟩
def math_Sqrt_c : Con := fun args => match args with
  | [.flt .f64 a0] => some (.leaf (math_Sqrt_mk (math_Sqrt a0)))
  | _ => none
set_option maxRecDepth 100000 in
theorem math_Sqrt_ok : FunOK Try.prog 87 math_Sqrt_c.fn := by
  refine con_ok (Γ := gam [(115, math_sqrt_c)]) (gam_cons math_sqrt_ok (gam_nil)) tab_ok (by kernel_rfl) Try.func87 (by kernel_rfl) (by kernel_rfl) Try.ntmps87 Try.results87 (loopsOK_none rfl _) 100000 fun args t h => ?_
  unfold math_Sqrt_c at h
  split at h
  · rename_i a0
    cases h
    exact ⟨rfl, agree_tot (mk := math_Sqrt_mk) (t := math_Sqrt_tree a0) (by unfold Agree; kernel_rfl) (by kernel_rfl)⟩
  · cases h

/-- (loop.example/g01284/impl.Orbit).rate -/
def impl_Orbit_rate_tree (a0 : Orbit) (a1 : Nat) : DT (Nat) :=
  .need ((fconvOk .f32 a0.Long .f64)) (
  let x0 := fconv .f32 a0.Long .f64;
  let x1 := math_Abs x0;
  let x2 := fmul .f64 x1 x1;
  let x3 := fmul .f64 x2 x1;
  let x4 := fdiv .f64 a1 x3;
  let x5 := math_Sqrt x4;
  .leaf x5)
def impl_Orbit_rate (a0 : Orbit) (a1 : Nat) : Nat := (impl_Orbit_rate_tree a0 a1).val
def impl_Orbit_rate_need (a0 : Orbit) (a1 : Nat) : Bool := (impl_Orbit_rate_tree a0 a1).ok
def impl_Orbit_rate_mk (p : Nat) : Ret := ⟨.flt .f64 p, []⟩
def impl_Orbit_rate_c : Con := fun args => match args with
  | [.agg [.flt .f32 a0_0, .flt .f32 a0_1, .flt .f32 a0_2, .flt .f32 a0_3, .flt .f32 a0_4, .flt .f32 a0_5], .flt .f64 a1] => some (.need (impl_Orbit_rate_need (⟨a0_0, a0_1, a0_2, a0_3, a0_4, a0_5⟩ : Orbit) a1) (.leaf (impl_Orbit_rate_mk (impl_Orbit_rate (⟨a0_0, a0_1, a0_2, a0_3, a0_4, a0_5⟩ : Orbit) a1))))
  | _ => none
set_option maxRecDepth 100000 in
theorem impl_Orbit_rate_ok : FunOK Try.prog 46 impl_Orbit_rate_c.fn := by
  refine con_ok (Γ := gam [(84, math_Abs_c), (87, math_Sqrt_c)]) (gam_cons math_Abs_ok (gam_cons math_Sqrt_ok (gam_nil))) tab_ok (by kernel_rfl) Try.func46 (by kernel_rfl) (by kernel_rfl) Try.ntmps46 Try.results46 (loopsOK_none rfl _) 100000 fun args t h => ?_
  unfold impl_Orbit_rate_c at h
  split at h
  · rename_i a0_0 a0_1 a0_2 a0_3 a0_4 a0_5 a1
    cases h
    exact ⟨rfl, agree_need (mk := impl_Orbit_rate_mk) (t := impl_Orbit_rate_tree (⟨a0_0, a0_1, a0_2, a0_3, a0_4, a0_5⟩ : Orbit) a1) (by unfold Agree; kernel_rfl)⟩
  · cases h

-- FAILED 133 math.Copysign: nanb

-- FAILED 132 math.trunc: no contract: math.Copysign 

/-- math.Trunc -/
def math_Trunc_tree (a0 : Nat) : DT (Nat) :=
  let x0 := ftrunc a0;
  .leaf x0
def math_Trunc (a0 : Nat) : Nat := (math_Trunc_tree a0).val
def math_Trunc_mk (p : Nat) : Ret := ⟨.flt .f64 p, []⟩
def math_Trunc_c : Con := fun args => match args with
  | [.flt .f64 a0] => some (.leaf (math_Trunc_mk (math_Trunc a0)))
  | _ => none
set_option maxRecDepth 100000 in
theorem math_Trunc_ok : FunOK Try.prog 127 math_Trunc_c.fn := by
  refine con_ok (Γ := gam [(131, math_archTrunc_c)]) (gam_cons math_archTrunc_ok (gam_nil)) tab_ok (by kernel_rfl) Try.func127 (by kernel_rfl) (by kernel_rfl) Try.ntmps127 Try.results127 (loopsOK_none rfl _) 100000 fun args t h => ?_
  unfold math_Trunc_c at h
  split at h
  · rename_i a0
    cases h
    exact ⟨rfl, agree_tot (mk := math_Trunc_mk) (t := math_Trunc_tree a0) (by unfold Agree; kernel_rfl) (by kernel_rfl)⟩
  · cases h

-- FAILED 128 math.Modf: no contract: math.Copysign 

-- FAILED 117 math.floor: no contract: math.Modf 

/-- math.Floor -/
def math_Floor_tree (a0 : Nat) : DT (Nat) :=
  let x0 := ffloor a0;
  .leaf x0
def math_Floor (a0 : Nat) : Nat := (math_Floor_tree a0).val
def math_Floor_mk (p : Nat) : Ret := ⟨.flt .f64 p, []⟩
def math_Floor_c : Con := fun args => match args with
  | [.flt .f64 a0] => some (.leaf (math_Floor_mk (math_Floor a0)))
  | _ => none
set_option maxRecDepth 100000 in
theorem math_Floor_ok : FunOK Try.prog 88 math_Floor_c.fn := by
  refine con_ok (Γ := gam [(116, math_archFloor_c)]) (gam_cons math_archFloor_ok (gam_nil)) tab_ok (by kernel_rfl) Try.func88 (by kernel_rfl) (by kernel_rfl) Try.ntmps88 Try.results88 (loopsOK_none rfl _) 100000 fun args t h => ?_
  unfold math_Floor_c at h
  split at h
  · rename_i a0
    cases h
    exact ⟨rfl, agree_tot (mk := math_Floor_mk) (t := math_Floor_tree a0) (by unfold Agree; kernel_rfl) (by kernel_rfl)⟩
  · cases h

/-- loop.example/g01284/impl.wrap -/
def impl_wrap_tree (a0 : Nat) : DT (Nat) :=
  let x0 := math_Floor a0;
  let x1 := fsub .f64 a0 x0;
  .leaf x1
def impl_wrap (a0 : Nat) : Nat := (impl_wrap_tree a0).val
def impl_wrap_mk (p : Nat) : Ret := ⟨.flt .f64 p, []⟩
def impl_wrap_c : Con := fun args => match args with
  | [.flt .f64 a0] => some (.leaf (impl_wrap_mk (impl_wrap a0)))
  | _ => none
set_option maxRecDepth 100000 in
theorem impl_wrap_ok : FunOK Try.prog 48 impl_wrap_c.fn := by
  refine con_ok (Γ := gam [(88, math_Floor_c)]) (gam_cons math_Floor_ok (gam_nil)) tab_ok (by kernel_rfl) Try.func48 (by kernel_rfl) (by kernel_rfl) Try.ntmps48 Try.results48 (loopsOK_none rfl _) 100000 fun args t h => ?_
  unfold impl_wrap_c at h
  split at h
  · rename_i a0
    cases h
    exact ⟨rfl, agree_tot (mk := impl_wrap_mk) (t := impl_wrap_tree a0) (by unfold Agree; kernel_rfl) (by kernel_rfl)⟩
  · cases h

/-- loop.example/g01284/impl.narrowTurn -/
def impl_narrowTurn_tree (a0 : Nat) : DT (Nat) :=
  .need ((fconvOk .f64 a0 .f32)) (
  let x0 := fconv .f64 a0 .f32;
  let x1 := fge .f32 x0 1065353216;
  .ask x1
  (
   .leaf 0)
  (
   .leaf x0))
def impl_narrowTurn (a0 : Nat) : Nat := (impl_narrowTurn_tree a0).val
def impl_narrowTurn_need (a0 : Nat) : Bool := (impl_narrowTurn_tree a0).ok
def impl_narrowTurn_mk (p : Nat) : Ret := ⟨.flt .f32 p, []⟩
def impl_narrowTurn_c : Con := fun args => match args with
  | [.flt .f64 a0] => some (.need (impl_narrowTurn_need a0) (.leaf (impl_narrowTurn_mk (impl_narrowTurn a0))))
  | _ => none
set_option maxRecDepth 100000 in
theorem impl_narrowTurn_ok : FunOK Try.prog 47 impl_narrowTurn_c.fn := by
  refine con_ok (Γ := gam []) (gam_nil) tab_ok (by kernel_rfl) Try.func47 (by kernel_rfl) (by kernel_rfl) Try.ntmps47 Try.results47 (loopsOK_none rfl _) 100000 fun args t h => ?_
  unfold impl_narrowTurn_c at h
  split at h
  · rename_i a0
    cases h
    exact ⟨rfl, agree_need (mk := impl_narrowTurn_mk) (t := impl_narrowTurn_tree a0) (by unfold Agree; kernel_rfl)⟩
  · cases h

/-- (loop.example/g01284/impl.Orbit).valid -/
def impl_Orbit_valid_tree (a0 : Orbit) : DT (Orbit × Bool) :=
  .need ((impl_ValidOrbit_need (⟨a0.Long, a0.Round, a0.Tilt, a0.Node, a0.Peri, a0.Phase⟩ : Orbit))) (
  let x0 := impl_ValidOrbit (⟨a0.Long, a0.Round, a0.Tilt, a0.Node, a0.Peri, a0.Phase⟩ : Orbit);
  .ask (!x0)
  (
   .leaf ((⟨0, 0, 0, 0, 0, 0⟩ : Orbit), false))
  (
   .leaf ((⟨a0.Long, a0.Round, a0.Tilt, a0.Node, a0.Peri, a0.Phase⟩ : Orbit), true)))
def impl_Orbit_valid (a0 : Orbit) : Orbit × Bool := (impl_Orbit_valid_tree a0).val
def impl_Orbit_valid_need (a0 : Orbit) : Bool := (impl_Orbit_valid_tree a0).ok
def impl_Orbit_valid_mk (p : Orbit × Bool) : Ret := ⟨.tup [.agg [.flt .f32 p.1.Long, .flt .f32 p.1.Round, .flt .f32 p.1.Tilt, .flt .f32 p.1.Node, .flt .f32 p.1.Peri, .flt .f32 p.1.Phase], .bool p.2], []⟩
def impl_Orbit_valid_c : Con := fun args => match args with
  | [.agg [.flt .f32 a0_0, .flt .f32 a0_1, .flt .f32 a0_2, .flt .f32 a0_3, .flt .f32 a0_4, .flt .f32 a0_5]] => some (.need (impl_Orbit_valid_need (⟨a0_0, a0_1, a0_2, a0_3, a0_4, a0_5⟩ : Orbit)) (.leaf (impl_Orbit_valid_mk (impl_Orbit_valid (⟨a0_0, a0_1, a0_2, a0_3, a0_4, a0_5⟩ : Orbit)))))
  | _ => none
set_option maxRecDepth 100000 in
theorem impl_Orbit_valid_ok : FunOK Try.prog 49 impl_Orbit_valid_c.fn := by
  refine con_ok (Γ := gam [(80, impl_ValidOrbit_c)]) (gam_cons impl_ValidOrbit_ok (gam_nil)) tab_ok (by kernel_rfl) Try.func49 (by kernel_rfl) (by kernel_rfl) Try.ntmps49 Try.results49 (loopsOK_none rfl _) 100000 fun args t h => ?_
  unfold impl_Orbit_valid_c at h
  split at h
  · rename_i a0_0 a0_1 a0_2 a0_3 a0_4 a0_5
    cases h
    exact ⟨rfl, agree_need (mk := impl_Orbit_valid_mk) (t := impl_Orbit_valid_tree (⟨a0_0, a0_1, a0_2, a0_3, a0_4, a0_5⟩ : Orbit)) (by unfold Agree; kernel_rfl)⟩
  · cases h

/-- loop.example/g01284/impl.LaterOrbit -/
def impl_LaterOrbit_tree (a0 : Orbit) (a1 : Nat) (a2 : Nat) : DT (Orbit × Bool) :=
  .need ((impl_Orbit_isAround_need (⟨a0.Long, a0.Round, a0.Tilt, a0.Node, a0.Peri, a0.Phase⟩ : Orbit) a1)) (
  let x0 := impl_Orbit_isAround (⟨a0.Long, a0.Round, a0.Tilt, a0.Node, a0.Peri, a0.Phase⟩ : Orbit) a1;
  .ask (!x0)
  (
   .leaf ((⟨0, 0, 0, 0, 0, 0⟩ : Orbit), false))
  (
   .need ((impl_IsFinite_need a2)) (
   let x1 := impl_IsFinite a2;
   .ask (!x1)
   (
    .leaf ((⟨0, 0, 0, 0, 0, 0⟩ : Orbit), false))
   (
    .need ((fconvOk .f32 a0.Phase .f64)) (
    let x2 := fconv .f32 a0.Phase .f64;
    .need ((fconvOk .f32 a1 .f64)) (
    let x3 := fconv .f32 a1 .f64;
    .need ((impl_Orbit_rate_need (⟨a0.Long, a0.Round, a0.Tilt, a0.Node, a0.Peri, a0.Phase⟩ : Orbit) x3)) (
    let x4 := impl_Orbit_rate (⟨a0.Long, a0.Round, a0.Tilt, a0.Node, a0.Peri, a0.Phase⟩ : Orbit) x3;
    .need ((fconvOk .f32 a2 .f64)) (
    let x5 := fconv .f32 a2 .f64;
    let x6 := fmul .f64 x4 x5;
    let x7 := fdiv .f64 x6 4618760256179416344;
    let x8 := fadd .f64 x2 x7;
    let x9 := fgt .f32 a0.Long 0;
    .ask x9
    (
     let x10 := impl_wrap x8;
     .need ((impl_narrowTurn_need x10)) (
     let x11 := impl_narrowTurn x10;
     .need ((impl_Orbit_valid_need (⟨a0.Long, a0.Round, a0.Tilt, a0.Node, a0.Peri, x11⟩ : Orbit))) (
     let x12 := impl_Orbit_valid (⟨a0.Long, a0.Round, a0.Tilt, a0.Node, a0.Peri, x11⟩ : Orbit);
     .leaf ((⟨x12.1.Long, x12.1.Round, x12.1.Tilt, x12.1.Node, x12.1.Peri, x12.1.Phase⟩ : Orbit), x12.2))))
    (
     .need ((fconvOk .f64 x8 .f32)) (
     let x10 := fconv .f64 x8 .f32;
     .need ((impl_Orbit_valid_need (⟨a0.Long, a0.Round, a0.Tilt, a0.Node, a0.Peri, x10⟩ : Orbit))) (
     let x11 := impl_Orbit_valid (⟨a0.Long, a0.Round, a0.Tilt, a0.Node, a0.Peri, x10⟩ : Orbit);
     .leaf ((⟨x11.1.Long, x11.1.Round, x11.1.Tilt, x11.1.Node, x11.1.Peri, x11.1.Phase⟩ : Orbit), x11.2))))))))))))
def impl_LaterOrbit (a0 : Orbit) (a1 : Nat) (a2 : Nat) : Orbit × Bool := (impl_LaterOrbit_tree a0 a1 a2).val
def impl_LaterOrbit_need (a0 : Orbit) (a1 : Nat) (a2 : Nat) : Bool := (impl_LaterOrbit_tree a0 a1 a2).ok
def impl_LaterOrbit_mk (p : Orbit × Bool) : Ret := ⟨.tup [.agg [.flt .f32 p.1.Long, .flt .f32 p.1.Round, .flt .f32 p.1.Tilt, .flt .f32 p.1.Node, .flt .f32 p.1.Peri, .flt .f32 p.1.Phase], .bool p.2], []⟩
def impl_LaterOrbit_c : Con := fun args => match args with
  | [.agg [.flt .f32 a0_0, .flt .f32 a0_1, .flt .f32 a0_2, .flt .f32 a0_3, .flt .f32 a0_4, .flt .f32 a0_5], .flt .f32 a1, .flt .f32 a2] => some (.need (impl_LaterOrbit_need (⟨a0_0, a0_1, a0_2, a0_3, a0_4, a0_5⟩ : Orbit) a1 a2) (.leaf (impl_LaterOrbit_mk (impl_LaterOrbit (⟨a0_0, a0_1, a0_2, a0_3, a0_4, a0_5⟩ : Orbit) a1 a2))))
  | _ => none
set_option maxRecDepth 100000 in
theorem impl_LaterOrbit_ok : FunOK Try.prog 15 impl_LaterOrbit_c.fn := by
  refine con_ok (Γ := gam [(45, impl_Orbit_isAround_c), (43, impl_IsFinite_c), (46, impl_Orbit_rate_c), (48, impl_wrap_c), (47, impl_narrowTurn_c), (49, impl_Orbit_valid_c)]) (gam_cons impl_Orbit_isAround_ok (gam_cons impl_IsFinite_ok (gam_cons impl_Orbit_rate_ok (gam_cons impl_wrap_ok (gam_cons impl_narrowTurn_ok (gam_cons impl_Orbit_valid_ok (gam_nil))))))) tab_ok (by kernel_rfl) Try.func15 (by kernel_rfl) (by kernel_rfl) Try.ntmps15 Try.results15 (loopsOK_none rfl _) 100000 fun args t h => ?_
  unfold impl_LaterOrbit_c at h
  split at h
  · rename_i a0_0 a0_1 a0_2 a0_3 a0_4 a0_5 a1 a2
    cases h
    exact ⟨rfl, agree_need (mk := impl_LaterOrbit_mk) (t := impl_LaterOrbit_tree (⟨a0_0, a0_1, a0_2, a0_3, a0_4, a0_5⟩ : Orbit) a1 a2) (by unfold Agree; kernel_rfl)⟩
  · cases h

/-- loop.example/g01284/impl.behind -/
def impl_behind_tree (a0 : Nat) : DT (Nat) :=
  let x0 := math_Trunc a0;
  let x1 := fadd .f64 x0 0;
  let x2 := fsub .f64 a0 x1;
  let x3 := flt .f64 x2 0;
  .ask x3
  (
   let x4 := fadd .f64 x2 4607182418800017408;
   .leaf x4)
  (
   .leaf x2)
def impl_behind (a0 : Nat) : Nat := (impl_behind_tree a0).val
def impl_behind_mk (p : Nat) : Ret := ⟨.flt .f64 p, []⟩
def impl_behind_c : Con := fun args => match args with
  | [.flt .f64 a0] => some (.leaf (impl_behind_mk (impl_behind a0)))
  | _ => none
set_option maxRecDepth 100000 in
theorem impl_behind_ok : FunOK Try.prog 114 impl_behind_c.fn := by
  refine con_ok (Γ := gam [(127, math_Trunc_c)]) (gam_cons math_Trunc_ok (gam_nil)) tab_ok (by kernel_rfl) Try.func114 (by kernel_rfl) (by kernel_rfl) Try.ntmps114 Try.results114 (loopsOK_none rfl _) 100000 fun args t h => ?_
  unfold impl_behind_c at h
  split at h
  · rename_i a0
    cases h
    exact ⟨rfl, agree_tot (mk := impl_behind_mk) (t := impl_behind_tree a0) (by unfold Agree; kernel_rfl) (by kernel_rfl)⟩
  · cases h

/-- loop.example/g01284/impl.sine -/
def impl_sine_tree (a0 : Nat) : DT (Nat) :=
  let x0 := impl_behind a0;
  let x1 := fge .f64 x0 4602678819172646912;
  .ask x1
  (
   let x2 := fsub .f64 x0 4602678819172646912;
   let x3 := fgt .f64 x2 4598175219545276416;
   .ask x3
   (
    let x4 := fsub .f64 4602678819172646912 x2;
    let x5 := fmul .f64 x4 4618760256179416344;
    let x6 := fmul .f64 x5 x5;
    .skip (
    let x7 := fmul .f64 x6 4607182418800017408;
    let x8 := fofInt .f64 272;
    let x9 := fdiv .f64 x7 x8;
    let x10 := fsub .f64 4607182418800017408 x9;
    .skip (
    let x11 := fmul .f64 x6 x10;
    let x12 := fofInt .f64 210;
    let x13 := fdiv .f64 x11 x12;
    let x14 := fsub .f64 4607182418800017408 x13;
    .skip (
    let x15 := fmul .f64 x6 x14;
    let x16 := fofInt .f64 156;
    let x17 := fdiv .f64 x15 x16;
    let x18 := fsub .f64 4607182418800017408 x17;
    .skip (
    let x19 := fmul .f64 x6 x18;
    let x20 := fofInt .f64 110;
    let x21 := fdiv .f64 x19 x20;
    let x22 := fsub .f64 4607182418800017408 x21;
    .skip (
    let x23 := fmul .f64 x6 x22;
    let x24 := fofInt .f64 72;
    let x25 := fdiv .f64 x23 x24;
    let x26 := fsub .f64 4607182418800017408 x25;
    .skip (
    let x27 := fmul .f64 x6 x26;
    let x28 := fofInt .f64 42;
    let x29 := fdiv .f64 x27 x28;
    let x30 := fsub .f64 4607182418800017408 x29;
    .skip (
    let x31 := fmul .f64 x6 x30;
    let x32 := fofInt .f64 20;
    let x33 := fdiv .f64 x31 x32;
    let x34 := fsub .f64 4607182418800017408 x33;
    .skip (
    let x35 := fmul .f64 x6 x34;
    let x36 := fofInt .f64 6;
    let x37 := fdiv .f64 x35 x36;
    let x38 := fsub .f64 4607182418800017408 x37;
    .skip (
    let x39 := fmul .f64 x5 x38;
    let x40 := fneg .f64 x39;
    .leaf x40))))))))))
   (
    let x4 := fmul .f64 x2 4618760256179416344;
    let x5 := fmul .f64 x4 x4;
    .skip (
    let x6 := fmul .f64 x5 4607182418800017408;
    let x7 := fofInt .f64 272;
    let x8 := fdiv .f64 x6 x7;
    let x9 := fsub .f64 4607182418800017408 x8;
    .skip (
    let x10 := fmul .f64 x5 x9;
    let x11 := fofInt .f64 210;
    let x12 := fdiv .f64 x10 x11;
    let x13 := fsub .f64 4607182418800017408 x12;
    .skip (
    let x14 := fmul .f64 x5 x13;
    let x15 := fofInt .f64 156;
    let x16 := fdiv .f64 x14 x15;
    let x17 := fsub .f64 4607182418800017408 x16;
    .skip (
    let x18 := fmul .f64 x5 x17;
    let x19 := fofInt .f64 110;
    let x20 := fdiv .f64 x18 x19;
    let x21 := fsub .f64 4607182418800017408 x20;
    .skip (
    let x22 := fmul .f64 x5 x21;
    let x23 := fofInt .f64 72;
    let x24 := fdiv .f64 x22 x23;
    let x25 := fsub .f64 4607182418800017408 x24;
    .skip (
    let x26 := fmul .f64 x5 x25;
    let x27 := fofInt .f64 42;
    let x28 := fdiv .f64 x26 x27;
    let x29 := fsub .f64 4607182418800017408 x28;
    .skip (
    let x30 := fmul .f64 x5 x29;
    let x31 := fofInt .f64 20;
    let x32 := fdiv .f64 x30 x31;
    let x33 := fsub .f64 4607182418800017408 x32;
    .skip (
    let x34 := fmul .f64 x5 x33;
    let x35 := fofInt .f64 6;
    let x36 := fdiv .f64 x34 x35;
    let x37 := fsub .f64 4607182418800017408 x36;
    .skip (
    let x38 := fmul .f64 x4 x37;
    let x39 := fneg .f64 x38;
    .leaf x39)))))))))))
  (
   let x2 := fgt .f64 x0 4598175219545276416;
   .ask x2
   (
    let x3 := fsub .f64 4602678819172646912 x0;
    let x4 := fmul .f64 x3 4618760256179416344;
    let x5 := fmul .f64 x4 x4;
    .skip (
    let x6 := fmul .f64 x5 4607182418800017408;
    let x7 := fofInt .f64 272;
    let x8 := fdiv .f64 x6 x7;
    let x9 := fsub .f64 4607182418800017408 x8;
    .skip (
    let x10 := fmul .f64 x5 x9;
    let x11 := fofInt .f64 210;
    let x12 := fdiv .f64 x10 x11;
    let x13 := fsub .f64 4607182418800017408 x12;
    .skip (
    let x14 := fmul .f64 x5 x13;
    let x15 := fofInt .f64 156;
    let x16 := fdiv .f64 x14 x15;
    let x17 := fsub .f64 4607182418800017408 x16;
    .skip (
    let x18 := fmul .f64 x5 x17;
    let x19 := fofInt .f64 110;
    let x20 := fdiv .f64 x18 x19;
    let x21 := fsub .f64 4607182418800017408 x20;
    .skip (
    let x22 := fmul .f64 x5 x21;
    let x23 := fofInt .f64 72;
    let x24 := fdiv .f64 x22 x23;
    let x25 := fsub .f64 4607182418800017408 x24;
    .skip (
    let x26 := fmul .f64 x5 x25;
    let x27 := fofInt .f64 42;
    let x28 := fdiv .f64 x26 x27;
    let x29 := fsub .f64 4607182418800017408 x28;
    .skip (
    let x30 := fmul .f64 x5 x29;
    let x31 := fofInt .f64 20;
    let x32 := fdiv .f64 x30 x31;
    let x33 := fsub .f64 4607182418800017408 x32;
    .skip (
    let x34 := fmul .f64 x5 x33;
    let x35 := fofInt .f64 6;
    let x36 := fdiv .f64 x34 x35;
    let x37 := fsub .f64 4607182418800017408 x36;
    .skip (
    let x38 := fmul .f64 x4 x37;
    .leaf x38))))))))))
   (
    let x3 := fmul .f64 x0 4618760256179416344;
    let x4 := fmul .f64 x3 x3;
    .skip (
    let x5 := fmul .f64 x4 4607182418800017408;
    let x6 := fofInt .f64 272;
    let x7 := fdiv .f64 x5 x6;
    let x8 := fsub .f64 4607182418800017408 x7;
    .skip (
    let x9 := fmul .f64 x4 x8;
    let x10 := fofInt .f64 210;
    let x11 := fdiv .f64 x9 x10;
    let x12 := fsub .f64 4607182418800017408 x11;
    .skip (
    let x13 := fmul .f64 x4 x12;
    let x14 := fofInt .f64 156;
    let x15 := fdiv .f64 x13 x14;
    let x16 := fsub .f64 4607182418800017408 x15;
    .skip (
    let x17 := fmul .f64 x4 x16;
    let x18 := fofInt .f64 110;
    let x19 := fdiv .f64 x17 x18;
    let x20 := fsub .f64 4607182418800017408 x19;
    .skip (
    let x21 := fmul .f64 x4 x20;
    let x22 := fofInt .f64 72;
    let x23 := fdiv .f64 x21 x22;
    let x24 := fsub .f64 4607182418800017408 x23;
    .skip (
    let x25 := fmul .f64 x4 x24;
    let x26 := fofInt .f64 42;
    let x27 := fdiv .f64 x25 x26;
    let x28 := fsub .f64 4607182418800017408 x27;
    .skip (
    let x29 := fmul .f64 x4 x28;
    let x30 := fofInt .f64 20;
    let x31 := fdiv .f64 x29 x30;
    let x32 := fsub .f64 4607182418800017408 x31;
    .skip (
    let x33 := fmul .f64 x4 x32;
    let x34 := fofInt .f64 6;
    let x35 := fdiv .f64 x33 x34;
    let x36 := fsub .f64 4607182418800017408 x35;
    .skip (
    let x37 := fmul .f64 x3 x36;
    .leaf x37)))))))))))
def impl_sine (a0 : Nat) : Nat := (impl_sine_tree a0).val
def impl_sine_mk (p : Nat) : Ret := ⟨.flt .f64 p, []⟩
def impl_sine_c : Con := fun args => match args with
  | [.flt .f64 a0] => some (.leaf (impl_sine_mk (impl_sine a0)))
  | _ => none
set_option maxRecDepth 100000 in
theorem impl_sine_ok : FunOK Try.prog 85 impl_sine_c.fn := by
  refine con_ok (Γ := gam [(114, impl_behind_c)]) (gam_cons impl_behind_ok (gam_nil)) tab_ok (by kernel_rfl) Try.func85 (by kernel_rfl) (by kernel_rfl) Try.ntmps85 Try.results85 (loopsOK_none rfl _) 100000 fun args t h => ?_
  unfold impl_sine_c at h
  split at h
  · rename_i a0
    cases h
    exact ⟨rfl, agree_tot (mk := impl_sine_mk) (t := impl_sine_tree a0) (by unfold Agree; kernel_rfl) (by kernel_rfl)⟩
  · cases h

/-- loop.example/g01284/impl.phaseOfSwing -/
def impl_phaseOfSwing_tree (a0 : Nat) (a1 : Nat) : DT (Nat) :=
  let x0 := impl_sine a1;
  let x1 := fmul .f64 a0 x0;
  let x2 := fdiv .f64 x1 4618760256179416344;
  let x3 := fsub .f64 a1 x2;
  .leaf x3
def impl_phaseOfSwing (a0 : Nat) (a1 : Nat) : Nat := (impl_phaseOfSwing_tree a0 a1).val
def impl_phaseOfSwing_mk (p : Nat) : Ret := ⟨.flt .f64 p, []⟩
def impl_phaseOfSwing_c : Con := fun args => match args with
  | [.flt .f64 a0, .flt .f64 a1] => some (.leaf (impl_phaseOfSwing_mk (impl_phaseOfSwing a0 a1)))
  | _ => none
set_option maxRecDepth 100000 in
theorem impl_phaseOfSwing_ok : FunOK Try.prog 129 impl_phaseOfSwing_c.fn := by
  refine con_ok (Γ := gam [(85, impl_sine_c)]) (gam_cons impl_sine_ok (gam_nil)) tab_ok (by kernel_rfl) Try.func129 (by kernel_rfl) (by kernel_rfl) Try.ntmps129 Try.results129 (loopsOK_none rfl _) 100000 fun args t h => ?_
  unfold impl_phaseOfSwing_c at h
  split at h
  · rename_i a0 a1
    cases h
    exact ⟨rfl, agree_tot (mk := impl_phaseOfSwing_mk) (t := impl_phaseOfSwing_tree a0 a1) (by unfold Agree; kernel_rfl) (by kernel_rfl)⟩
  · cases h

/-- a loop of impl_swing -/
def impl_swing_loop0_step (p : Nat × Nat) (s : Nat × Nat × Int) : Round (Nat × Nat × Int) (Nat) :=
  let x0 := decide (s.2.2 < 50);
  .ask x0
  (
   let x1 := fadd .f64 s.1 s.2.1;
   let x2 := fdiv .f64 x1 4611686018427387904;
   let x3 := impl_phaseOfSwing p.1 x2;
   let x4 := fgt .f64 x3 p.2;
   .ask x4
   (
    let x5 := IntKind.wrap .i64 (s.2.2 + 1);
    .leaf (.inl (s.1, x2, x5), []))
   (
    let x5 := IntKind.wrap .i64 (s.2.2 + 1);
    .leaf (.inl (x2, s.2.1, x5), [])))
  (
   .leaf (.inr s.1, []))
def impl_swing_loop0_L (p : Nat × Nat) : LoopS (Nat × Nat × Int) (Nat) := { tl := fun s => [.flt .f64 p.1, .junk, .junk, .junk, .junk, .flt .f64 p.2, .flt .f64 s.1, .flt .f64 s.2.1, .junk, .junk, .junk, .int .i64 s.2.2], hl := fun s => [], ex := fun r => .exit 0, otl := fun r => [.junk, .junk, .junk, .junk, .junk, .junk, .flt .f64 r], ohl := fun r => [] }
def impl_swing_loop0_ext : St → Option ((Nat × Nat) × (Nat × Nat × Int) × List Nat) := fun S => match (S.tm 0).unK, (S.tm 5).unK, (S.tm 6).unK, (S.tm 7).unK, (S.tm 11).unK with
  | .flt .f64 q0, .flt .f64 q1, .flt .f64 q2, .flt .f64 q3, .int .i64 q4 => some ((q0, q1), (q2, q3, q4), [])
  | _, _, _, _, _ => none
def impl_swing_loop0_post (p : Nat × Nat) (r : Nat) : DT (Ex × St) := .leaf (.exit 0, LSt [.junk, .junk, .junk, .junk, .junk, .junk, .flt .f64 r] [])
def impl_swing_loop0 (p : Nat × Nat) (s : Nat × Nat × Int) : Nat := loopVal (impl_swing_loop0_step p) s
def impl_swing_loop0_ends (p : Nat × Nat) (s : Nat × Nat × Int) : Bool := loopEnds (impl_swing_loop0_step p) s
def impl_swing_loop0_F : LoopF := loopF impl_swing_loop0_step impl_swing_loop0_ext impl_swing_loop0_post
set_option maxRecDepth 100000 in
theorem impl_swing_loop0_hext : ∀ S p s fl, impl_swing_loop0_ext S = some (p, s, fl) → Norm S fl ((impl_swing_loop0_L p).tl s) ((impl_swing_loop0_L p).hl s) (impl_swing_loop0_L p).gl := by
  intro S p s fl h
  unfold impl_swing_loop0_ext at h
  (repeat' split at h) <;> first
    | (cases h; constructor <;> simp_all [impl_swing_loop0_L, keepT, keepH, rens, renH, PV.ren, Blk.ren, fOf, lget, nodup, natIn, lenEq, gtm, PV.unK])
    | cases h
set_option maxRecDepth 100000 in
theorem impl_swing_loop0_hpost : ∀ p r e S', (impl_swing_loop0_post p r).get = some (e, S') → e = (impl_swing_loop0_L p).ex r ∧ S' = LSt ((impl_swing_loop0_L p).otl r) ((impl_swing_loop0_L p).ohl r) ((impl_swing_loop0_L p).ogl r) := by
  intro p r e S' h
  unfold impl_swing_loop0_post at h
  simp only [DT.get, Option.some.injEq, Prod.mk.injEq] at h; exact ⟨h.1.symm, h.2.symm⟩

def impl_swing_loops : Nat → Option LoopF := loopTab [(3, impl_swing_loop0_F)]
set_option maxRecDepth 100000 in
theorem impl_swing_l0 : LoopOK Try.prog ⟨gam [(48, impl_wrap_c), (129, impl_phaseOfSwing_c)], tab, 26, impl_swing_loops⟩ (lp Try.f118 0) :=
  loopOK_some (F := impl_swing_loop0_F) (by kernel_rfl) (loopF_ok (E := ⟨gam [(48, impl_wrap_c), (129, impl_phaseOfSwing_c)], tab, 26, impl_swing_loops⟩) ⟨gam_cons impl_wrap_ok (gam_cons impl_phaseOfSwing_ok (gam_nil)), tab_ok, by kernel_rfl⟩ (fuel := 100000) (loopsOK_list (l := []) (by kernel_rfl) trivial) (L := impl_swing_loop0_L) (fun p s => by unfold AgreeL; exact ⟨by kernel_rfl, by kernel_rfl⟩) (fun _ _ h => Ex.noConfusion h) impl_swing_loop0_hext impl_swing_loop0_hpost)
/-- loop.example/g01284/impl.swing -/
def impl_swing_tree (a0 : Nat) (a1 : Nat) : DT (Nat) :=
  let x0 := impl_wrap a1;
  .need ((impl_swing_loop0_ends (a0, x0) (0, 4607182418800017408, 0))) (
  let x1 := impl_swing_loop0 (a0, x0) (0, 4607182418800017408, 0);
  .leaf x1)
def impl_swing (a0 : Nat) (a1 : Nat) : Nat := (impl_swing_tree a0 a1).val
def impl_swing_need (a0 : Nat) (a1 : Nat) : Bool := (impl_swing_tree a0 a1).ok
def impl_swing_mk (p : Nat) : Ret := ⟨.flt .f64 p, []⟩
def impl_swing_c : Con := fun args => match args with
  | [.flt .f64 a0, .flt .f64 a1] => some (.need (impl_swing_need a0 a1) (.leaf (impl_swing_mk (impl_swing a0 a1))))
  | _ => none
set_option maxRecDepth 100000 in
theorem impl_swing_ok : FunOK Try.prog 118 impl_swing_c.fn := by
  refine con_ok (Γ := gam [(48, impl_wrap_c), (129, impl_phaseOfSwing_c)]) (gam_cons impl_wrap_ok (gam_cons impl_phaseOfSwing_ok (gam_nil))) tab_ok (by kernel_rfl) Try.func118 (by kernel_rfl) (by kernel_rfl) Try.ntmps118 Try.results118 (loops := impl_swing_loops) (loopsOK_list (l := [lp Try.f118 0]) (by kernel_rfl) ⟨impl_swing_l0, trivial⟩) 100000 fun args t h => ?_
  unfold impl_swing_c at h
  split at h
  · rename_i a0 a1
    cases h
    exact ⟨rfl, agree_need (mk := impl_swing_mk) (t := impl_swing_tree a0 a1) (by unfold Agree; kernel_rfl)⟩
  · cases h

/-- loop.example/g01284/impl.cosine -/
def impl_cosine_tree (a0 : Nat) : DT (Nat) :=
  let x0 := fadd .f64 a0 4598175219545276416;
  let x1 := impl_sine x0;
  .leaf x1
def impl_cosine (a0 : Nat) : Nat := (impl_cosine_tree a0).val
def impl_cosine_mk (p : Nat) : Ret := ⟨.flt .f64 p, []⟩
def impl_cosine_c : Con := fun args => match args with
  | [.flt .f64 a0] => some (.leaf (impl_cosine_mk (impl_cosine a0)))
  | _ => none
set_option maxRecDepth 100000 in
theorem impl_cosine_ok : FunOK Try.prog 119 impl_cosine_c.fn := by
  refine con_ok (Γ := gam [(85, impl_sine_c)]) (gam_cons impl_sine_ok (gam_nil)) tab_ok (by kernel_rfl) Try.func119 (by kernel_rfl) (by kernel_rfl) Try.ntmps119 Try.results119 (loopsOK_none rfl _) 100000 fun args t h => ?_
  unfold impl_cosine_c at h
  split at h
  · rename_i a0
    cases h
    exact ⟨rfl, agree_tot (mk := impl_cosine_mk) (t := impl_cosine_tree a0) (by unfold Agree; kernel_rfl) (by kernel_rfl)⟩
  · cases h

/-- math.Inf -/
def math_Inf_tree (a0 : Int) : DT (Nat) :=
  let x0 := decide (a0 ≥ 0);
  .ask x0
  (
   let x1 := canon .f64 (Int.toNat 9218868437227405312);
   .leaf x1)
  (
   let x1 := canon .f64 (Int.toNat 18442240474082181120);
   .leaf x1)
def math_Inf (a0 : Int) : Nat := (math_Inf_tree a0).val
def math_Inf_mk (p : Nat) : Ret := ⟨.flt .f64 p, []⟩
def math_Inf_c : Con := fun args => match args with
  | [.int .i64 a0] => some (.leaf (math_Inf_mk (math_Inf a0)))
  | _ => none
set_option maxRecDepth 100000 in
theorem math_Inf_ok : FunOK Try.prog 134 math_Inf_c.fn := by
  refine con_ok (Γ := gam [(112, math_Float64frombits_c)]) (gam_cons math_Float64frombits_ok (gam_nil)) tab_ok (by kernel_rfl) Try.func134 (by kernel_rfl) (by kernel_rfl) Try.ntmps134 Try.results134 (loopsOK_none rfl _) 100000 fun args t h => ?_
  unfold math_Inf_c at h
  split at h
  · rename_i a0
    cases h
    exact ⟨rfl, agree_tot (mk := math_Inf_mk) (t := math_Inf_tree a0) (by unfold Agree; kernel_rfl) (by kernel_rfl)⟩
  · cases h

/-- loop.example/g01284/impl.exponential -/
def impl_exponential_tree (a0 : Nat) : DT (Nat) :=
  let x0 := fgt .f64 a0 4641240890982006784;
  .ask x0
  (
   let x1 := math_Inf 1;
   .leaf x1)
  (
   let x1 := flt .f64 a0 13864612927836782592;
   .ask x1
   (
    .leaf 0)
   (
    let x2 := fdiv .f64 a0 4643211215818981376;
    .skip (
    let x3 := fmul .f64 x2 4607182418800017408;
    let x4 := fofInt .f64 12;
    let x5 := fdiv .f64 x3 x4;
    let x6 := fadd .f64 4607182418800017408 x5;
    .skip (
    let x7 := fmul .f64 x2 x6;
    let x8 := fofInt .f64 11;
    let x9 := fdiv .f64 x7 x8;
    let x10 := fadd .f64 4607182418800017408 x9;
    .skip (
    let x11 := fmul .f64 x2 x10;
    let x12 := fofInt .f64 10;
    let x13 := fdiv .f64 x11 x12;
    let x14 := fadd .f64 4607182418800017408 x13;
    .skip (
    let x15 := fmul .f64 x2 x14;
    let x16 := fofInt .f64 9;
    let x17 := fdiv .f64 x15 x16;
    let x18 := fadd .f64 4607182418800017408 x17;
    .skip (
    let x19 := fmul .f64 x2 x18;
    let x20 := fofInt .f64 8;
    let x21 := fdiv .f64 x19 x20;
    let x22 := fadd .f64 4607182418800017408 x21;
    .skip (
    let x23 := fmul .f64 x2 x22;
    let x24 := fofInt .f64 7;
    let x25 := fdiv .f64 x23 x24;
    let x26 := fadd .f64 4607182418800017408 x25;
    .skip (
    let x27 := fmul .f64 x2 x26;
    let x28 := fofInt .f64 6;
    let x29 := fdiv .f64 x27 x28;
    let x30 := fadd .f64 4607182418800017408 x29;
    .skip (
    let x31 := fmul .f64 x2 x30;
    let x32 := fofInt .f64 5;
    let x33 := fdiv .f64 x31 x32;
    let x34 := fadd .f64 4607182418800017408 x33;
    .skip (
    let x35 := fmul .f64 x2 x34;
    let x36 := fofInt .f64 4;
    let x37 := fdiv .f64 x35 x36;
    let x38 := fadd .f64 4607182418800017408 x37;
    .skip (
    let x39 := fmul .f64 x2 x38;
    let x40 := fofInt .f64 3;
    let x41 := fdiv .f64 x39 x40;
    let x42 := fadd .f64 4607182418800017408 x41;
    .skip (
    let x43 := fmul .f64 x2 x42;
    let x44 := fofInt .f64 2;
    let x45 := fdiv .f64 x43 x44;
    let x46 := fadd .f64 4607182418800017408 x45;
    .skip (
    let x47 := fmul .f64 x2 x46;
    let x48 := fofInt .f64 1;
    let x49 := fdiv .f64 x47 x48;
    let x50 := fadd .f64 4607182418800017408 x49;
    .skip (
    .skip (
    let x51 := fmul .f64 x50 x50;
    .skip (
    let x52 := fmul .f64 x51 x51;
    .skip (
    let x53 := fmul .f64 x52 x52;
    .skip (
    let x54 := fmul .f64 x53 x53;
    .skip (
    let x55 := fmul .f64 x54 x54;
    .skip (
    let x56 := fmul .f64 x55 x55;
    .skip (
    let x57 := fmul .f64 x56 x56;
    .skip (
    let x58 := fmul .f64 x57 x57;
    .skip (
    .leaf x58))))))))))))))))))))))))
def impl_exponential (a0 : Nat) : Nat := (impl_exponential_tree a0).val
def impl_exponential_mk (p : Nat) : Ret := ⟨.flt .f64 p, []⟩
def impl_exponential_c : Con := fun args => match args with
  | [.flt .f64 a0] => some (.leaf (impl_exponential_mk (impl_exponential a0)))
  | _ => none
set_option maxRecDepth 100000 in
theorem impl_exponential_ok : FunOK Try.prog 130 impl_exponential_c.fn := by
  refine con_ok (Γ := gam [(134, math_Inf_c)]) (gam_cons math_Inf_ok (gam_nil)) tab_ok (by kernel_rfl) Try.func130 (by kernel_rfl) (by kernel_rfl) Try.ntmps130 Try.results130 (loopsOK_none rfl _) 100000 fun args t h => ?_
  unfold impl_exponential_c at h
  split at h
  · rename_i a0
    cases h
    exact ⟨rfl, agree_tot (mk := impl_exponential_mk) (t := impl_exponential_tree a0) (by unfold Agree; kernel_rfl) (by kernel_rfl)⟩
  · cases h

/-- loop.example/g01284/impl.halfDifference -/
def impl_halfDifference_tree (a0 : Nat) : DT (Nat) :=
  let x0 := impl_exponential a0;
  let x1 := fneg .f64 a0;
  let x2 := impl_exponential x1;
  let x3 := fsub .f64 x0 x2;
  let x4 := fdiv .f64 x3 4611686018427387904;
  .leaf x4
def impl_halfDifference (a0 : Nat) : Nat := (impl_halfDifference_tree a0).val
def impl_halfDifference_mk (p : Nat) : Ret := ⟨.flt .f64 p, []⟩
def impl_halfDifference_c : Con := fun args => match args with
  | [.flt .f64 a0] => some (.leaf (impl_halfDifference_mk (impl_halfDifference a0)))
  | _ => none
set_option maxRecDepth 100000 in
theorem impl_halfDifference_ok : FunOK Try.prog 121 impl_halfDifference_c.fn := by
  refine con_ok (Γ := gam [(130, impl_exponential_c)]) (gam_cons impl_exponential_ok (gam_nil)) tab_ok (by kernel_rfl) Try.func121 (by kernel_rfl) (by kernel_rfl) Try.ntmps121 Try.results121 (loopsOK_none rfl _) 100000 fun args t h => ?_
  unfold impl_halfDifference_c at h
  split at h
  · rename_i a0
    cases h
    exact ⟨rfl, agree_tot (mk := impl_halfDifference_mk) (t := impl_halfDifference_tree a0) (by unfold Agree; kernel_rfl) (by kernel_rfl)⟩
  · cases h

/-- a loop of impl_lean -/
def impl_lean_loop0_step (p : Nat × Nat) (s : Nat × Nat × Int) : Round (Nat × Nat × Int) (Nat) :=
  let x0 := decide (s.2.2 < 60);
  .ask x0
  (
   let x1 := fadd .f64 s.1 s.2.1;
   let x2 := fdiv .f64 x1 4611686018427387904;
   let x3 := impl_halfDifference x2;
   let x4 := fmul .f64 p.1 x3;
   let x5 := fsub .f64 x4 x2;
   let x6 := fgt .f64 x5 p.2;
   .ask x6
   (
    let x7 := IntKind.wrap .i64 (s.2.2 + 1);
    .leaf (.inl (s.1, x2, x7), []))
   (
    let x7 := IntKind.wrap .i64 (s.2.2 + 1);
    .leaf (.inl (x2, s.2.1, x7), [])))
  (
   .leaf (.inr s.1, []))
def impl_lean_loop0_L (p : Nat × Nat) : LoopS (Nat × Nat × Int) (Nat) := { tl := fun s => [.flt .f64 p.1, .junk, .junk, .junk, .junk, .flt .f64 p.2, .flt .f64 s.1, .flt .f64 s.2.1, .junk, .junk, .junk, .int .i64 s.2.2], hl := fun s => [], ex := fun r => .exit 0, otl := fun r => [.junk, .junk, .junk, .junk, .junk, .junk, .flt .f64 r], ohl := fun r => [] }
def impl_lean_loop0_ext : St → Option ((Nat × Nat) × (Nat × Nat × Int) × List Nat) := fun S => match (S.tm 0).unK, (S.tm 5).unK, (S.tm 6).unK, (S.tm 7).unK, (S.tm 11).unK with
  | .flt .f64 q0, .flt .f64 q1, .flt .f64 q2, .flt .f64 q3, .int .i64 q4 => some ((q0, q1), (q2, q3, q4), [])
  | _, _, _, _, _ => none
def impl_lean_loop0_post (p : Nat × Nat) (r : Nat) : DT (Ex × St) := .leaf (.exit 0, LSt [.junk, .junk, .junk, .junk, .junk, .junk, .flt .f64 r] [])
def impl_lean_loop0 (p : Nat × Nat) (s : Nat × Nat × Int) : Nat := loopVal (impl_lean_loop0_step p) s
def impl_lean_loop0_ends (p : Nat × Nat) (s : Nat × Nat × Int) : Bool := loopEnds (impl_lean_loop0_step p) s
def impl_lean_loop0_F : LoopF := loopF impl_lean_loop0_step impl_lean_loop0_ext impl_lean_loop0_post
set_option maxRecDepth 100000 in
theorem impl_lean_loop0_hext : ∀ S p s fl, impl_lean_loop0_ext S = some (p, s, fl) → Norm S fl ((impl_lean_loop0_L p).tl s) ((impl_lean_loop0_L p).hl s) (impl_lean_loop0_L p).gl := by
  intro S p s fl h
  unfold impl_lean_loop0_ext at h
  (repeat' split at h) <;> first
    | (cases h; constructor <;> simp_all [impl_lean_loop0_L, keepT, keepH, rens, renH, PV.ren, Blk.ren, fOf, lget, nodup, natIn, lenEq, gtm, PV.unK])
    | cases h
set_option maxRecDepth 100000 in
theorem impl_lean_loop0_hpost : ∀ p r e S', (impl_lean_loop0_post p r).get = some (e, S') → e = (impl_lean_loop0_L p).ex r ∧ S' = LSt ((impl_lean_loop0_L p).otl r) ((impl_lean_loop0_L p).ohl r) ((impl_lean_loop0_L p).ogl r) := by
  intro p r e S' h
  unfold impl_lean_loop0_post at h
  simp only [DT.get, Option.some.injEq, Prod.mk.injEq] at h; exact ⟨h.1.symm, h.2.symm⟩

def impl_lean_loops : Nat → Option LoopF := loopTab [(3, impl_lean_loop0_F)]
set_option maxRecDepth 100000 in
theorem impl_lean_l0 : LoopOK Try.prog ⟨gam [(121, impl_halfDifference_c)], tab, 29, impl_lean_loops⟩ (lp Try.f120 0) :=
  loopOK_some (F := impl_lean_loop0_F) (by kernel_rfl) (loopF_ok (E := ⟨gam [(121, impl_halfDifference_c)], tab, 29, impl_lean_loops⟩) ⟨gam_cons impl_halfDifference_ok (gam_nil), tab_ok, by kernel_rfl⟩ (fuel := 100000) (loopsOK_list (l := []) (by kernel_rfl) trivial) (L := impl_lean_loop0_L) (fun p s => by unfold AgreeL; exact ⟨by kernel_rfl, by kernel_rfl⟩) (fun _ _ h => Ex.noConfusion h) impl_lean_loop0_hext impl_lean_loop0_hpost)
/-- loop.example/g01284/impl.lean -/
def impl_lean_tree (a0 : Nat) (a1 : Nat) : DT (Nat) :=
  let x0 := fmul .f64 4618760256179416344 a1;
  .need ((impl_lean_loop0_ends (a0, x0) (13845191154443747328, 4621819117588971520, 0))) (
  let x1 := impl_lean_loop0 (a0, x0) (13845191154443747328, 4621819117588971520, 0);
  .leaf x1)
def impl_lean (a0 : Nat) (a1 : Nat) : Nat := (impl_lean_tree a0 a1).val
def impl_lean_need (a0 : Nat) (a1 : Nat) : Bool := (impl_lean_tree a0 a1).ok
def impl_lean_mk (p : Nat) : Ret := ⟨.flt .f64 p, []⟩
def impl_lean_c : Con := fun args => match args with
  | [.flt .f64 a0, .flt .f64 a1] => some (.need (impl_lean_need a0 a1) (.leaf (impl_lean_mk (impl_lean a0 a1))))
  | _ => none
set_option maxRecDepth 100000 in
theorem impl_lean_ok : FunOK Try.prog 120 impl_lean_c.fn := by
  refine con_ok (Γ := gam [(121, impl_halfDifference_c)]) (gam_cons impl_halfDifference_ok (gam_nil)) tab_ok (by kernel_rfl) Try.func120 (by kernel_rfl) (by kernel_rfl) Try.ntmps120 Try.results120 (loops := impl_lean_loops) (loopsOK_list (l := [lp Try.f120 0]) (by kernel_rfl) ⟨impl_lean_l0, trivial⟩) 100000 fun args t h => ?_
  unfold impl_lean_c at h
  split at h
  · rename_i a0 a1
    cases h
    exact ⟨rfl, agree_need (mk := impl_lean_mk) (t := impl_lean_tree a0 a1) (by unfold Agree; kernel_rfl)⟩
  · cases h

/-- loop.example/g01284/impl.halfSum -/
def impl_halfSum_tree (a0 : Nat) : DT (Nat) :=
  let x0 := impl_exponential a0;
  let x1 := fneg .f64 a0;
  let x2 := impl_exponential x1;
  let x3 := fadd .f64 x0 x2;
  let x4 := fdiv .f64 x3 4611686018427387904;
  .leaf x4
def impl_halfSum (a0 : Nat) : Nat := (impl_halfSum_tree a0).val
def impl_halfSum_mk (p : Nat) : Ret := ⟨.flt .f64 p, []⟩
def impl_halfSum_c : Con := fun args => match args with
  | [.flt .f64 a0] => some (.leaf (impl_halfSum_mk (impl_halfSum a0)))
  | _ => none
set_option maxRecDepth 100000 in
theorem impl_halfSum_ok : FunOK Try.prog 122 impl_halfSum_c.fn := by
  refine con_ok (Γ := gam [(130, impl_exponential_c)]) (gam_cons impl_exponential_ok (gam_nil)) tab_ok (by kernel_rfl) Try.func122 (by kernel_rfl) (by kernel_rfl) Try.ntmps122 Try.results122 (loopsOK_none rfl _) 100000 fun args t h => ?_
  unfold impl_halfSum_c at h
  split at h
  · rename_i a0
    cases h
    exact ⟨rfl, agree_tot (mk := impl_halfSum_mk) (t := impl_halfSum_tree a0) (by unfold Agree; kernel_rfl) (by kernel_rfl)⟩
  · cases h

/-- (loop.example/g01284/impl.Orbit).plane -/
def impl_Orbit_plane_tree (a0 : Orbit) (a1 : Nat) : DT (Nat × Nat × Nat × Nat) :=
  .need ((fconvOk .f32 a0.Round .f64)) (
  let x0 := fconv .f32 a0.Round .f64;
  .need ((fconvOk .f32 a0.Long .f64)) (
  let x1 := fconv .f32 a0.Long .f64;
  let x2 := math_Abs x1;
  .need ((impl_Orbit_rate_need (⟨a0.Long, a0.Round, a0.Tilt, a0.Node, a0.Peri, a0.Phase⟩ : Orbit) a1)) (
  let x3 := impl_Orbit_rate (⟨a0.Long, a0.Round, a0.Tilt, a0.Node, a0.Peri, a0.Phase⟩ : Orbit) a1;
  let x4 := fgt .f32 a0.Long 0;
  .ask x4
  (
   .need ((fconvOk .f32 a0.Phase .f64)) (
   let x5 := fconv .f32 a0.Phase .f64;
   .need ((impl_swing_need x0 x5)) (
   let x6 := impl_swing x0 x5;
   let x7 := impl_sine x6;
   let x8 := impl_cosine x6;
   let x9 := fmul .f64 x0 x8;
   let x10 := fsub .f64 4607182418800017408 x9;
   let x11 := fmul .f64 x0 x0;
   let x12 := fsub .f64 4607182418800017408 x11;
   let x13 := math_Sqrt x12;
   let x14 := fsub .f64 x8 x0;
   let x15 := fmul .f64 x2 x14;
   let x16 := fmul .f64 x2 x3;
   let x17 := fmul .f64 x2 x13;
   let x18 := fmul .f64 x17 x7;
   let x19 := fmul .f64 x16 x7;
   let x20 := fdiv .f64 x19 x10;
   let x21 := fneg .f64 x20;
   let x22 := fmul .f64 x16 x13;
   let x23 := fmul .f64 x22 x8;
   let x24 := fdiv .f64 x23 x10;
   .leaf (x15, x18, x21, x24))))
  (
   .need ((fconvOk .f32 a0.Phase .f64)) (
   let x5 := fconv .f32 a0.Phase .f64;
   .need ((impl_lean_need x0 x5)) (
   let x6 := impl_lean x0 x5;
   let x7 := impl_halfDifference x6;
   let x8 := impl_halfSum x6;
   let x9 := fmul .f64 x0 x8;
   let x10 := fsub .f64 x9 4607182418800017408;
   let x11 := fmul .f64 x0 x0;
   let x12 := fsub .f64 x11 4607182418800017408;
   let x13 := math_Sqrt x12;
   let x14 := fsub .f64 x0 x8;
   let x15 := fmul .f64 x2 x14;
   let x16 := fmul .f64 x2 x3;
   let x17 := fmul .f64 x2 x13;
   let x18 := fmul .f64 x17 x7;
   let x19 := fmul .f64 x16 x7;
   let x20 := fdiv .f64 x19 x10;
   let x21 := fneg .f64 x20;
   let x22 := fmul .f64 x16 x13;
   let x23 := fmul .f64 x22 x8;
   let x24 := fdiv .f64 x23 x10;
   .leaf (x15, x18, x21, x24)))))))
def impl_Orbit_plane (a0 : Orbit) (a1 : Nat) : Nat × Nat × Nat × Nat := (impl_Orbit_plane_tree a0 a1).val
def impl_Orbit_plane_need (a0 : Orbit) (a1 : Nat) : Bool := (impl_Orbit_plane_tree a0 a1).ok
def impl_Orbit_plane_mk (p : Nat × Nat × Nat × Nat) : Ret := ⟨.tup [.flt .f64 p.1, .flt .f64 p.2.1, .flt .f64 p.2.2.1, .flt .f64 p.2.2.2], []⟩
def impl_Orbit_plane_c : Con := fun args => match args with
  | [.agg [.flt .f32 a0_0, .flt .f32 a0_1, .flt .f32 a0_2, .flt .f32 a0_3, .flt .f32 a0_4, .flt .f32 a0_5], .flt .f64 a1] => some (.need (impl_Orbit_plane_need (⟨a0_0, a0_1, a0_2, a0_3, a0_4, a0_5⟩ : Orbit) a1) (.leaf (impl_Orbit_plane_mk (impl_Orbit_plane (⟨a0_0, a0_1, a0_2, a0_3, a0_4, a0_5⟩ : Orbit) a1))))
  | _ => none
set_option maxRecDepth 100000 in
theorem impl_Orbit_plane_ok : FunOK Try.prog 89 impl_Orbit_plane_c.fn := by
  refine con_ok (Γ := gam [(84, math_Abs_c), (46, impl_Orbit_rate_c), (118, impl_swing_c), (85, impl_sine_c), (119, impl_cosine_c), (87, math_Sqrt_c), (120, impl_lean_c), (121, impl_halfDifference_c), (122, impl_halfSum_c)]) (gam_cons math_Abs_ok (gam_cons impl_Orbit_rate_ok (gam_cons impl_swing_ok (gam_cons impl_sine_ok (gam_cons impl_cosine_ok (gam_cons math_Sqrt_ok (gam_cons impl_lean_ok (gam_cons impl_halfDifference_ok (gam_cons impl_halfSum_ok (gam_nil)))))))))) tab_ok (by kernel_rfl) Try.func89 (by kernel_rfl) (by kernel_rfl) Try.ntmps89 Try.results89 (loopsOK_none rfl _) 100000 fun args t h => ?_
  unfold impl_Orbit_plane_c at h
  split at h
  · rename_i a0_0 a0_1 a0_2 a0_3 a0_4 a0_5 a1
    cases h
    exact ⟨rfl, agree_need (mk := impl_Orbit_plane_mk) (t := impl_Orbit_plane_tree (⟨a0_0, a0_1, a0_2, a0_3, a0_4, a0_5⟩ : Orbit) a1) (by unfold Agree; kernel_rfl)⟩
  · cases h

/-- (loop.example/g01284/impl.Orbit).turned -/
def impl_Orbit_turned_tree (a0 : Orbit) (a1 : Nat) (a2 : Nat) : DT (Vec) :=
  .need ((fconvOk .f32 a0.Peri .f64)) (
  let x0 := fconv .f32 a0.Peri .f64;
  let x1 := impl_cosine x0;
  .need ((fconvOk .f32 a0.Peri .f64)) (
  let x2 := fconv .f32 a0.Peri .f64;
  let x3 := impl_sine x2;
  let x4 := fmul .f64 a1 x1;
  let x5 := fmul .f64 a2 x3;
  let x6 := fsub .f64 x4 x5;
  let x7 := fmul .f64 a1 x3;
  let x8 := fmul .f64 a2 x1;
  let x9 := fadd .f64 x7 x8;
  .need ((fconvOk .f32 a0.Tilt .f64)) (
  let x10 := fconv .f32 a0.Tilt .f64;
  let x11 := impl_cosine x10;
  let x12 := fmul .f64 x9 x11;
  .need ((fconvOk .f32 a0.Tilt .f64)) (
  let x13 := fconv .f32 a0.Tilt .f64;
  let x14 := impl_sine x13;
  let x15 := fmul .f64 x9 x14;
  .need ((fconvOk .f32 a0.Node .f64)) (
  let x16 := fconv .f32 a0.Node .f64;
  let x17 := impl_cosine x16;
  .need ((fconvOk .f32 a0.Node .f64)) (
  let x18 := fconv .f32 a0.Node .f64;
  let x19 := impl_sine x18;
  let x20 := fmul .f64 x6 x17;
  let x21 := fmul .f64 x12 x19;
  let x22 := fsub .f64 x20 x21;
  .need ((fconvOk .f64 x22 .f32)) (
  let x23 := fconv .f64 x22 .f32;
  let x24 := fmul .f64 x6 x19;
  let x25 := fmul .f64 x12 x17;
  let x26 := fadd .f64 x24 x25;
  .need ((fconvOk .f64 x26 .f32)) (
  let x27 := fconv .f64 x26 .f32;
  .need ((fconvOk .f64 x15 .f32)) (
  let x28 := fconv .f64 x15 .f32;
  .leaf ((⟨x23, x27, x28⟩ : Vec)))))))))))
def impl_Orbit_turned (a0 : Orbit) (a1 : Nat) (a2 : Nat) : Vec := (impl_Orbit_turned_tree a0 a1 a2).val
def impl_Orbit_turned_need (a0 : Orbit) (a1 : Nat) (a2 : Nat) : Bool := (impl_Orbit_turned_tree a0 a1 a2).ok
def impl_Orbit_turned_mk (p : Vec) : Ret := ⟨.agg [.flt .f32 p.X, .flt .f32 p.Y, .flt .f32 p.Z], []⟩
def impl_Orbit_turned_c : Con := fun args => match args with
  | [.agg [.flt .f32 a0_0, .flt .f32 a0_1, .flt .f32 a0_2, .flt .f32 a0_3, .flt .f32 a0_4, .flt .f32 a0_5], .flt .f64 a1, .flt .f64 a2] => some (.need (impl_Orbit_turned_need (⟨a0_0, a0_1, a0_2, a0_3, a0_4, a0_5⟩ : Orbit) a1 a2) (.leaf (impl_Orbit_turned_mk (impl_Orbit_turned (⟨a0_0, a0_1, a0_2, a0_3, a0_4, a0_5⟩ : Orbit) a1 a2))))
  | _ => none
set_option maxRecDepth 100000 in
theorem impl_Orbit_turned_ok : FunOK Try.prog 90 impl_Orbit_turned_c.fn := by
  refine con_ok (Γ := gam [(119, impl_cosine_c), (85, impl_sine_c)]) (gam_cons impl_cosine_ok (gam_cons impl_sine_ok (gam_nil))) tab_ok (by kernel_rfl) Try.func90 (by kernel_rfl) (by kernel_rfl) Try.ntmps90 Try.results90 (loopsOK_none rfl _) 100000 fun args t h => ?_
  unfold impl_Orbit_turned_c at h
  split at h
  · rename_i a0_0 a0_1 a0_2 a0_3 a0_4 a0_5 a1 a2
    cases h
    exact ⟨rfl, agree_need (mk := impl_Orbit_turned_mk) (t := impl_Orbit_turned_tree (⟨a0_0, a0_1, a0_2, a0_3, a0_4, a0_5⟩ : Orbit) a1 a2) (by unfold Agree; kernel_rfl)⟩
  · cases h

/-- (loop.example/g01284/impl.Orbit).state -/
def impl_Orbit_state_tree (a0 : Orbit) (a1 : Nat) : DT (Vec × Vec) :=
  .need ((impl_Orbit_plane_need (⟨a0.Long, a0.Round, a0.Tilt, a0.Node, a0.Peri, a0.Phase⟩ : Orbit) a1)) (
  let x0 := impl_Orbit_plane (⟨a0.Long, a0.Round, a0.Tilt, a0.Node, a0.Peri, a0.Phase⟩ : Orbit) a1;
  .need ((impl_Orbit_turned_need (⟨a0.Long, a0.Round, a0.Tilt, a0.Node, a0.Peri, a0.Phase⟩ : Orbit) x0.1 x0.2.1)) (
  let x1 := impl_Orbit_turned (⟨a0.Long, a0.Round, a0.Tilt, a0.Node, a0.Peri, a0.Phase⟩ : Orbit) x0.1 x0.2.1;
  .need ((impl_Orbit_turned_need (⟨a0.Long, a0.Round, a0.Tilt, a0.Node, a0.Peri, a0.Phase⟩ : Orbit) x0.2.2.1 x0.2.2.2)) (
  let x2 := impl_Orbit_turned (⟨a0.Long, a0.Round, a0.Tilt, a0.Node, a0.Peri, a0.Phase⟩ : Orbit) x0.2.2.1 x0.2.2.2;
  .leaf ((⟨x1.X, x1.Y, x1.Z⟩ : Vec), (⟨x2.X, x2.Y, x2.Z⟩ : Vec)))))
def impl_Orbit_state (a0 : Orbit) (a1 : Nat) : Vec × Vec := (impl_Orbit_state_tree a0 a1).val
def impl_Orbit_state_need (a0 : Orbit) (a1 : Nat) : Bool := (impl_Orbit_state_tree a0 a1).ok
def impl_Orbit_state_mk (p : Vec × Vec) : Ret := ⟨.tup [.agg [.flt .f32 p.1.X, .flt .f32 p.1.Y, .flt .f32 p.1.Z], .agg [.flt .f32 p.2.X, .flt .f32 p.2.Y, .flt .f32 p.2.Z]], []⟩
def impl_Orbit_state_c : Con := fun args => match args with
  | [.agg [.flt .f32 a0_0, .flt .f32 a0_1, .flt .f32 a0_2, .flt .f32 a0_3, .flt .f32 a0_4, .flt .f32 a0_5], .flt .f64 a1] => some (.need (impl_Orbit_state_need (⟨a0_0, a0_1, a0_2, a0_3, a0_4, a0_5⟩ : Orbit) a1) (.leaf (impl_Orbit_state_mk (impl_Orbit_state (⟨a0_0, a0_1, a0_2, a0_3, a0_4, a0_5⟩ : Orbit) a1))))
  | _ => none
set_option maxRecDepth 100000 in
theorem impl_Orbit_state_ok : FunOK Try.prog 50 impl_Orbit_state_c.fn := by
  refine con_ok (Γ := gam [(89, impl_Orbit_plane_c), (90, impl_Orbit_turned_c)]) (gam_cons impl_Orbit_plane_ok (gam_cons impl_Orbit_turned_ok (gam_nil))) tab_ok (by kernel_rfl) Try.func50 (by kernel_rfl) (by kernel_rfl) Try.ntmps50 Try.results50 (loopsOK_none rfl _) 100000 fun args t h => ?_
  unfold impl_Orbit_state_c at h
  split at h
  · rename_i a0_0 a0_1 a0_2 a0_3 a0_4 a0_5 a1
    cases h
    exact ⟨rfl, agree_need (mk := impl_Orbit_state_mk) (t := impl_Orbit_state_tree (⟨a0_0, a0_1, a0_2, a0_3, a0_4, a0_5⟩ : Orbit) a1) (by unfold Agree; kernel_rfl)⟩
  · cases h

/-- (loop.example/g01284/impl.Vector).numbers -/
def impl_Vector_numbers_tree (a0 : Vec) : DT (List Nat) :=
  .leaf ([a0.X, a0.Y, a0.Z])
def impl_Vector_numbers (a0 : Vec) : List Nat := (impl_Vector_numbers_tree a0).val
def impl_Vector_numbers_mk (p : List Nat) : Ret := ⟨.own 0, [.typed 31 (.flt .f32) p]⟩
def impl_Vector_numbers_c : Con := fun args => match args with
  | [.agg [.flt .f32 a0_0, .flt .f32 a0_1, .flt .f32 a0_2]] => some (.leaf (impl_Vector_numbers_mk (impl_Vector_numbers (⟨a0_0, a0_1, a0_2⟩ : Vec))))
  | _ => none
set_option maxRecDepth 100000 in
theorem impl_Vector_numbers_ok : FunOK Try.prog 91 impl_Vector_numbers_c.fn := by
  refine con_ok (Γ := gam []) (gam_nil) tab_ok (by kernel_rfl) Try.func91 (by kernel_rfl) (by kernel_rfl) Try.ntmps91 Try.results91 (loopsOK_none rfl _) 100000 fun args t h => ?_
  unfold impl_Vector_numbers_c at h
  split at h
  · rename_i a0_0 a0_1 a0_2
    cases h
    exact ⟨rfl, agree_tot (mk := impl_Vector_numbers_mk) (t := impl_Vector_numbers_tree (⟨a0_0, a0_1, a0_2⟩ : Vec)) (by unfold Agree; kernel_rfl) (by kernel_rfl)⟩
  · cases h

/-- loop.example/g01284/impl.isFiniteVector -/
def impl_isFiniteVector_tree (a0 : Vec) : DT (Bool) :=
  let x0 := impl_Vector_numbers (⟨a0.X, a0.Y, a0.Z⟩ : Vec);
  .need ((impl_areFinite_need x0)) (
  let x1 := impl_areFinite x0;
  .leaf x1)
def impl_isFiniteVector (a0 : Vec) : Bool := (impl_isFiniteVector_tree a0).val
def impl_isFiniteVector_need (a0 : Vec) : Bool := (impl_isFiniteVector_tree a0).ok
def impl_isFiniteVector_mk (p : Bool) : Ret := ⟨.bool p, []⟩
def impl_isFiniteVector_c : Con := fun args => match args with
  | [.agg [.flt .f32 a0_0, .flt .f32 a0_1, .flt .f32 a0_2]] => some (.need (impl_isFiniteVector_need (⟨a0_0, a0_1, a0_2⟩ : Vec)) (.leaf (impl_isFiniteVector_mk (impl_isFiniteVector (⟨a0_0, a0_1, a0_2⟩ : Vec)))))
  | _ => none
set_option maxRecDepth 100000 in
theorem impl_isFiniteVector_ok : FunOK Try.prog 51 impl_isFiniteVector_c.fn := by
  refine con_ok (Γ := gam [(91, impl_Vector_numbers_c), (62, impl_areFinite_c)]) (gam_cons impl_Vector_numbers_ok (gam_cons impl_areFinite_ok (gam_nil))) tab_ok (by kernel_rfl) Try.func51 (by kernel_rfl) (by kernel_rfl) Try.ntmps51 Try.results51 (loopsOK_none rfl _) 100000 fun args t h => ?_
  unfold impl_isFiniteVector_c at h
  split at h
  · rename_i a0_0 a0_1 a0_2
    cases h
    exact ⟨rfl, agree_need (mk := impl_isFiniteVector_mk) (t := impl_isFiniteVector_tree (⟨a0_0, a0_1, a0_2⟩ : Vec)) (by unfold Agree; kernel_rfl)⟩
  · cases h

/-- loop.example/g01284/impl.StateOf -/
def impl_StateOf_tree (a0 : Orbit) (a1 : Nat) : DT (Vec × Vec × Bool) :=
  .need ((impl_Orbit_isAround_need (⟨a0.Long, a0.Round, a0.Tilt, a0.Node, a0.Peri, a0.Phase⟩ : Orbit) a1)) (
  let x0 := impl_Orbit_isAround (⟨a0.Long, a0.Round, a0.Tilt, a0.Node, a0.Peri, a0.Phase⟩ : Orbit) a1;
  .ask (!x0)
  (
   .leaf ((⟨0, 0, 0⟩ : Vec), (⟨0, 0, 0⟩ : Vec), false))
  (
   .need ((fconvOk .f32 a1 .f64)) (
   let x1 := fconv .f32 a1 .f64;
   .need ((impl_Orbit_state_need (⟨a0.Long, a0.Round, a0.Tilt, a0.Node, a0.Peri, a0.Phase⟩ : Orbit) x1)) (
   let x2 := impl_Orbit_state (⟨a0.Long, a0.Round, a0.Tilt, a0.Node, a0.Peri, a0.Phase⟩ : Orbit) x1;
   .need ((impl_isFiniteVector_need (⟨x2.1.X, x2.1.Y, x2.1.Z⟩ : Vec))) (
   let x3 := impl_isFiniteVector (⟨x2.1.X, x2.1.Y, x2.1.Z⟩ : Vec);
   .ask (!x3)
   (
    .leaf ((⟨0, 0, 0⟩ : Vec), (⟨0, 0, 0⟩ : Vec), false))
   (
    .need ((impl_isFiniteVector_need (⟨x2.2.X, x2.2.Y, x2.2.Z⟩ : Vec))) (
    let x4 := impl_isFiniteVector (⟨x2.2.X, x2.2.Y, x2.2.Z⟩ : Vec);
    .ask (!x4)
    (
     .leaf ((⟨0, 0, 0⟩ : Vec), (⟨0, 0, 0⟩ : Vec), false))
    (
     .leaf ((⟨x2.1.X, x2.1.Y, x2.1.Z⟩ : Vec), (⟨x2.2.X, x2.2.Y, x2.2.Z⟩ : Vec), true)))))))))
def impl_StateOf (a0 : Orbit) (a1 : Nat) : Vec × Vec × Bool := (impl_StateOf_tree a0 a1).val
def impl_StateOf_need (a0 : Orbit) (a1 : Nat) : Bool := (impl_StateOf_tree a0 a1).ok
def impl_StateOf_mk (p : Vec × Vec × Bool) : Ret := ⟨.tup [.agg [.flt .f32 p.1.X, .flt .f32 p.1.Y, .flt .f32 p.1.Z], .agg [.flt .f32 p.2.1.X, .flt .f32 p.2.1.Y, .flt .f32 p.2.1.Z], .bool p.2.2], []⟩
def impl_StateOf_c : Con := fun args => match args with
  | [.agg [.flt .f32 a0_0, .flt .f32 a0_1, .flt .f32 a0_2, .flt .f32 a0_3, .flt .f32 a0_4, .flt .f32 a0_5], .flt .f32 a1] => some (.need (impl_StateOf_need (⟨a0_0, a0_1, a0_2, a0_3, a0_4, a0_5⟩ : Orbit) a1) (.leaf (impl_StateOf_mk (impl_StateOf (⟨a0_0, a0_1, a0_2, a0_3, a0_4, a0_5⟩ : Orbit) a1))))
  | _ => none
set_option maxRecDepth 100000 in
theorem impl_StateOf_ok : FunOK Try.prog 16 impl_StateOf_c.fn := by
  refine con_ok (Γ := gam [(45, impl_Orbit_isAround_c), (50, impl_Orbit_state_c), (51, impl_isFiniteVector_c)]) (gam_cons impl_Orbit_isAround_ok (gam_cons impl_Orbit_state_ok (gam_cons impl_isFiniteVector_ok (gam_nil)))) tab_ok (by kernel_rfl) Try.func16 (by kernel_rfl) (by kernel_rfl) Try.ntmps16 Try.results16 (loopsOK_none rfl _) 100000 fun args t h => ?_
  unfold impl_StateOf_c at h
  split at h
  · rename_i a0_0 a0_1 a0_2 a0_3 a0_4 a0_5 a1
    cases h
    exact ⟨rfl, agree_need (mk := impl_StateOf_mk) (t := impl_StateOf_tree (⟨a0_0, a0_1, a0_2, a0_3, a0_4, a0_5⟩ : Orbit) a1) (by unfold Agree; kernel_rfl)⟩
  · cases h

/-- (loop.example/g01284/impl.Ball).passed -/
def impl_Ball_passed_tree (a0 : Ball) (a1 : Orbit) (a2 : Nat) : DT (Vec × Bool) :=
  .need ((impl_LaterOrbit_need (⟨a1.Long, a1.Round, a1.Tilt, a1.Node, a1.Peri, a1.Phase⟩ : Orbit) a0.Mass a2)) (
  let x0 := impl_LaterOrbit (⟨a1.Long, a1.Round, a1.Tilt, a1.Node, a1.Peri, a1.Phase⟩ : Orbit) a0.Mass a2;
  .ask (!x0.2)
  (
   .leaf ((⟨0, 0, 0⟩ : Vec), false))
  (
   .need ((impl_StateOf_need (⟨x0.1.Long, x0.1.Round, x0.1.Tilt, x0.1.Node, x0.1.Peri, x0.1.Phase⟩ : Orbit) a0.Mass)) (
   let x1 := impl_StateOf (⟨x0.1.Long, x0.1.Round, x0.1.Tilt, x0.1.Node, x0.1.Peri, x0.1.Phase⟩ : Orbit) a0.Mass;
   .leaf ((⟨x1.1.X, x1.1.Y, x1.1.Z⟩ : Vec), x1.2.2))))
def impl_Ball_passed (a0 : Ball) (a1 : Orbit) (a2 : Nat) : Vec × Bool := (impl_Ball_passed_tree a0 a1 a2).val
def impl_Ball_passed_need (a0 : Ball) (a1 : Orbit) (a2 : Nat) : Bool := (impl_Ball_passed_tree a0 a1 a2).ok
def impl_Ball_passed_mk (p : Vec × Bool) : Ret := ⟨.tup [.agg [.flt .f32 p.1.X, .flt .f32 p.1.Y, .flt .f32 p.1.Z], .bool p.2], []⟩
def impl_Ball_passed_c : Con := fun args => match args with
  | [.agg [.flt .f32 a0_0, .flt .f32 a0_1, .flt .f32 a0_2, .flt .f32 a0_3], .agg [.flt .f32 a1_0, .flt .f32 a1_1, .flt .f32 a1_2, .flt .f32 a1_3, .flt .f32 a1_4, .flt .f32 a1_5], .flt .f32 a2] => some (.need (impl_Ball_passed_need (⟨a0_0, a0_1, a0_2, a0_3⟩ : Ball) (⟨a1_0, a1_1, a1_2, a1_3, a1_4, a1_5⟩ : Orbit) a2) (.leaf (impl_Ball_passed_mk (impl_Ball_passed (⟨a0_0, a0_1, a0_2, a0_3⟩ : Ball) (⟨a1_0, a1_1, a1_2, a1_3, a1_4, a1_5⟩ : Orbit) a2))))
  | _ => none
set_option maxRecDepth 100000 in
theorem impl_Ball_passed_ok : FunOK Try.prog 41 impl_Ball_passed_c.fn := by
  refine con_ok (Γ := gam [(15, impl_LaterOrbit_c), (16, impl_StateOf_c)]) (gam_cons impl_LaterOrbit_ok (gam_cons impl_StateOf_ok (gam_nil))) tab_ok (by kernel_rfl) Try.func41 (by kernel_rfl) (by kernel_rfl) Try.ntmps41 Try.results41 (loopsOK_none rfl _) 100000 fun args t h => ?_
  unfold impl_Ball_passed_c at h
  split at h
  · rename_i a0_0 a0_1 a0_2 a0_3 a1_0 a1_1 a1_2 a1_3 a1_4 a1_5 a2
    cases h
    exact ⟨rfl, agree_need (mk := impl_Ball_passed_mk) (t := impl_Ball_passed_tree (⟨a0_0, a0_1, a0_2, a0_3⟩ : Ball) (⟨a1_0, a1_1, a1_2, a1_3, a1_4, a1_5⟩ : Orbit) a2) (by unfold Agree; kernel_rfl)⟩
  · cases h

/-- loop.example/g01284/impl.RootNumber -/
def impl_RootNumber_tree (a0 : Nat) : DT (Nat) :=
  .need ((fconvOk .f32 a0 .f64)) (
  let x0 := fconv .f32 a0 .f64;
  let x1 := math_Sqrt x0;
  .need ((fconvOk .f64 x1 .f32)) (
  let x2 := fconv .f64 x1 .f32;
  .leaf x2))
def impl_RootNumber (a0 : Nat) : Nat := (impl_RootNumber_tree a0).val
def impl_RootNumber_need (a0 : Nat) : Bool := (impl_RootNumber_tree a0).ok
def impl_RootNumber_mk (p : Nat) : Ret := ⟨.flt .f32 p, []⟩
def impl_RootNumber_c : Con := fun args => match args with
  | [.flt .f32 a0] => some (.need (impl_RootNumber_need a0) (.leaf (impl_RootNumber_mk (impl_RootNumber a0))))
  | _ => none
set_option maxRecDepth 100000 in
theorem impl_RootNumber_ok : FunOK Try.prog 53 impl_RootNumber_c.fn := by
  refine con_ok (Γ := gam [(87, math_Sqrt_c)]) (gam_cons math_Sqrt_ok (gam_nil)) tab_ok (by kernel_rfl) Try.func53 (by kernel_rfl) (by kernel_rfl) Try.ntmps53 Try.results53 (loopsOK_none rfl _) 100000 fun args t h => ?_
  unfold impl_RootNumber_c at h
  split at h
  · rename_i a0
    cases h
    exact ⟨rfl, agree_need (mk := impl_RootNumber_mk) (t := impl_RootNumber_tree a0) (by unfold Agree; kernel_rfl)⟩
  · cases h

/-- math.NaN -/
def math_NaN_tree  : DT (Nat) :=
  let x0 := canon .f64 (Int.toNat 9221120237041090561);
  .leaf x0
def math_NaN  : Nat := (math_NaN_tree ).val
def math_NaN_mk (p : Nat) : Ret := ⟨.flt .f64 p, []⟩
def math_NaN_c : Con := fun args => match args with
  | [] => some (.leaf (math_NaN_mk (math_NaN )))
  | _ => none
set_option maxRecDepth 100000 in
theorem math_NaN_ok : FunOK Try.prog 83 math_NaN_c.fn := by
  refine con_ok (Γ := gam [(112, math_Float64frombits_c)]) (gam_cons math_Float64frombits_ok (gam_nil)) tab_ok (by kernel_rfl) Try.func83 (by kernel_rfl) (by kernel_rfl) Try.ntmps83 Try.results83 (loopsOK_none rfl _) 100000 fun args t h => ?_
  unfold math_NaN_c at h
  split at h
  · cases h
    exact ⟨rfl, agree_tot (mk := math_NaN_mk) (t := math_NaN_tree ) (by unfold Agree; kernel_rfl) (by kernel_rfl)⟩
  · cases h

/-- loop.example/g01284/impl.angle -/
def impl_angle_tree (a0 : Nat) (a1 : Nat) : DT (Nat) :=
  let x0 := math_Abs a0;
  let x1 := math_Abs a1;
  let x2 := fdiv .f64 x0 x1;
  let x3 := fgt .f64 x0 x1;
  .ask x3
  (
   let x4 := fdiv .f64 x1 x0;
   .skip (
   let x5 := fmul .f64 x4 x4;
   let x6 := fadd .f64 4607182418800017408 x5;
   let x7 := math_Sqrt x6;
   let x8 := fadd .f64 4607182418800017408 x7;
   let x9 := fdiv .f64 x4 x8;
   .skip (
   let x10 := fmul .f64 x9 x9;
   let x11 := fadd .f64 4607182418800017408 x10;
   let x12 := math_Sqrt x11;
   let x13 := fadd .f64 4607182418800017408 x12;
   let x14 := fdiv .f64 x9 x13;
   .skip (
   let x15 := fmul .f64 x14 x14;
   let x16 := fadd .f64 4607182418800017408 x15;
   let x17 := math_Sqrt x16;
   let x18 := fadd .f64 4607182418800017408 x17;
   let x19 := fdiv .f64 x14 x18;
   .skip (
   let x20 := fmul .f64 x19 x19;
   .skip (
   let x21 := fofInt .f64 15;
   let x22 := fdiv .f64 4607182418800017408 x21;
   let x23 := fmul .f64 x20 0;
   let x24 := fsub .f64 x22 x23;
   .skip (
   let x25 := fofInt .f64 13;
   let x26 := fdiv .f64 4607182418800017408 x25;
   let x27 := fmul .f64 x20 x24;
   let x28 := fsub .f64 x26 x27;
   .skip (
   let x29 := fofInt .f64 11;
   let x30 := fdiv .f64 4607182418800017408 x29;
   let x31 := fmul .f64 x20 x28;
   let x32 := fsub .f64 x30 x31;
   .skip (
   let x33 := fofInt .f64 9;
   let x34 := fdiv .f64 4607182418800017408 x33;
   let x35 := fmul .f64 x20 x32;
   let x36 := fsub .f64 x34 x35;
   .skip (
   let x37 := fofInt .f64 7;
   let x38 := fdiv .f64 4607182418800017408 x37;
   let x39 := fmul .f64 x20 x36;
   let x40 := fsub .f64 x38 x39;
   .skip (
   let x41 := fofInt .f64 5;
   let x42 := fdiv .f64 4607182418800017408 x41;
   let x43 := fmul .f64 x20 x40;
   let x44 := fsub .f64 x42 x43;
   .skip (
   let x45 := fofInt .f64 3;
   let x46 := fdiv .f64 4607182418800017408 x45;
   let x47 := fmul .f64 x20 x44;
   let x48 := fsub .f64 x46 x47;
   .skip (
   let x49 := fofInt .f64 1;
   let x50 := fdiv .f64 4607182418800017408 x49;
   let x51 := fmul .f64 x20 x48;
   let x52 := fsub .f64 x50 x51;
   .skip (
   let x53 := fmul .f64 x19 x52;
   let x54 := fmul .f64 4620693217682128896 x53;
   let x55 := fdiv .f64 x54 4618760256179416344;
   let x56 := fgt .f64 x0 x1;
   .ask x56
   (
    let x57 := fsub .f64 4598175219545276416 x55;
    let x58 := flt .f64 a1 0;
    .ask x58
    (
     let x59 := fsub .f64 4602678819172646912 x57;
     let x60 := flt .f64 a0 0;
     .ask x60
     (
      let x61 := fneg .f64 x59;
      .leaf x61)
     (
      .leaf x59))
    (
     let x59 := flt .f64 a0 0;
     .ask x59
     (
      let x60 := fneg .f64 x57;
      .leaf x60)
     (
      .leaf x57)))
   (
    let x57 := flt .f64 a1 0;
    .ask x57
    (
     let x58 := fsub .f64 4602678819172646912 x55;
     let x59 := flt .f64 a0 0;
     .ask x59
     (
      let x60 := fneg .f64 x58;
      .leaf x60)
     (
      .leaf x58))
    (
     let x58 := flt .f64 a0 0;
     .ask x58
     (
      let x59 := fneg .f64 x55;
      .leaf x59)
     (
      .leaf x55)))))))))))))))))
  (
   .skip (
   let x4 := fmul .f64 x2 x2;
   let x5 := fadd .f64 4607182418800017408 x4;
   let x6 := math_Sqrt x5;
   let x7 := fadd .f64 4607182418800017408 x6;
   let x8 := fdiv .f64 x2 x7;
   .skip (
   let x9 := fmul .f64 x8 x8;
   let x10 := fadd .f64 4607182418800017408 x9;
   let x11 := math_Sqrt x10;
   let x12 := fadd .f64 4607182418800017408 x11;
   let x13 := fdiv .f64 x8 x12;
   .skip (
   let x14 := fmul .f64 x13 x13;
   let x15 := fadd .f64 4607182418800017408 x14;
   let x16 := math_Sqrt x15;
   let x17 := fadd .f64 4607182418800017408 x16;
   let x18 := fdiv .f64 x13 x17;
   .skip (
   let x19 := fmul .f64 x18 x18;
   .skip (
   let x20 := fofInt .f64 15;
   let x21 := fdiv .f64 4607182418800017408 x20;
   let x22 := fmul .f64 x19 0;
   let x23 := fsub .f64 x21 x22;
   .skip (
   let x24 := fofInt .f64 13;
   let x25 := fdiv .f64 4607182418800017408 x24;
   let x26 := fmul .f64 x19 x23;
   let x27 := fsub .f64 x25 x26;
   .skip (
   let x28 := fofInt .f64 11;
   let x29 := fdiv .f64 4607182418800017408 x28;
   let x30 := fmul .f64 x19 x27;
   let x31 := fsub .f64 x29 x30;
   .skip (
   let x32 := fofInt .f64 9;
   let x33 := fdiv .f64 4607182418800017408 x32;
   let x34 := fmul .f64 x19 x31;
   let x35 := fsub .f64 x33 x34;
   .skip (
   let x36 := fofInt .f64 7;
   let x37 := fdiv .f64 4607182418800017408 x36;
   let x38 := fmul .f64 x19 x35;
   let x39 := fsub .f64 x37 x38;
   .skip (
   let x40 := fofInt .f64 5;
   let x41 := fdiv .f64 4607182418800017408 x40;
   let x42 := fmul .f64 x19 x39;
   let x43 := fsub .f64 x41 x42;
   .skip (
   let x44 := fofInt .f64 3;
   let x45 := fdiv .f64 4607182418800017408 x44;
   let x46 := fmul .f64 x19 x43;
   let x47 := fsub .f64 x45 x46;
   .skip (
   let x48 := fofInt .f64 1;
   let x49 := fdiv .f64 4607182418800017408 x48;
   let x50 := fmul .f64 x19 x47;
   let x51 := fsub .f64 x49 x50;
   .skip (
   let x52 := fmul .f64 x18 x51;
   let x53 := fmul .f64 4620693217682128896 x52;
   let x54 := fdiv .f64 x53 4618760256179416344;
   let x55 := fgt .f64 x0 x1;
   .ask x55
   (
    let x56 := fsub .f64 4598175219545276416 x54;
    let x57 := flt .f64 a1 0;
    .ask x57
    (
     let x58 := fsub .f64 4602678819172646912 x56;
     let x59 := flt .f64 a0 0;
     .ask x59
     (
      let x60 := fneg .f64 x58;
      .leaf x60)
     (
      .leaf x58))
    (
     let x58 := flt .f64 a0 0;
     .ask x58
     (
      let x59 := fneg .f64 x56;
      .leaf x59)
     (
      .leaf x56)))
   (
    let x56 := flt .f64 a1 0;
    .ask x56
    (
     let x57 := fsub .f64 4602678819172646912 x54;
     let x58 := flt .f64 a0 0;
     .ask x58
     (
      let x59 := fneg .f64 x57;
      .leaf x59)
     (
      .leaf x57))
    (
     let x57 := flt .f64 a0 0;
     .ask x57
     (
      let x58 := fneg .f64 x54;
      .leaf x58)
     (
      .leaf x54)))))))))))))))))
def impl_angle (a0 : Nat) (a1 : Nat) : Nat := (impl_angle_tree a0 a1).val
def impl_angle_mk (p : Nat) : Ret := ⟨.flt .f64 p, []⟩
def impl_angle_c : Con := fun args => match args with
  | [.flt .f64 a0, .flt .f64 a1] => some (.leaf (impl_angle_mk (impl_angle a0 a1)))
  | _ => none
set_option maxRecDepth 100000 in
theorem impl_angle_ok : FunOK Try.prog 93 impl_angle_c.fn := by
  refine con_ok (Γ := gam [(84, math_Abs_c), (87, math_Sqrt_c)]) (gam_cons math_Abs_ok (gam_cons math_Sqrt_ok (gam_nil))) tab_ok (by kernel_rfl) Try.func93 (by kernel_rfl) (by kernel_rfl) Try.ntmps93 Try.results93 (loopsOK_none rfl _) 100000 fun args t h => ?_
  unfold impl_angle_c at h
  split at h
  · rename_i a0 a1
    cases h
    exact ⟨rfl, agree_tot (mk := impl_angle_mk) (t := impl_angle_tree a0 a1) (by unfold Agree; kernel_rfl) (by kernel_rfl)⟩
  · cases h

/-- loop.example/g01284/impl.AngleTurns -/
def impl_AngleTurns_tree (a0 : Nat) (a1 : Nat) : DT (Nat) :=
  .need ((impl_IsFinite_need a0)) (
  let x0 := impl_IsFinite a0;
  .ask (!x0)
  (
   let x1 := math_NaN ;
   .need ((fconvOk .f64 x1 .f32)) (
   let x2 := fconv .f64 x1 .f32;
   .leaf x2))
  (
   .need ((impl_IsFinite_need a1)) (
   let x1 := impl_IsFinite a1;
   .ask (!x1)
   (
    let x2 := math_NaN ;
    .need ((fconvOk .f64 x2 .f32)) (
    let x3 := fconv .f64 x2 .f32;
    .leaf x3))
   (
    let x2 := feq .f32 a0 0;
    .ask x2
    (
     let x3 := feq .f32 a1 0;
     .ask x3
     (
      .leaf 0)
     (
      .need ((fconvOk .f32 a0 .f64)) (
      let x4 := fconv .f32 a0 .f64;
      .need ((fconvOk .f32 a1 .f64)) (
      let x5 := fconv .f32 a1 .f64;
      let x6 := impl_angle x4 x5;
      .need ((fconvOk .f64 x6 .f32)) (
      let x7 := fconv .f64 x6 .f32;
      .leaf x7)))))
    (
     .need ((fconvOk .f32 a0 .f64)) (
     let x3 := fconv .f32 a0 .f64;
     .need ((fconvOk .f32 a1 .f64)) (
     let x4 := fconv .f32 a1 .f64;
     let x5 := impl_angle x3 x4;
     .need ((fconvOk .f64 x5 .f32)) (
     let x6 := fconv .f64 x5 .f32;
     .leaf x6))))))))
def impl_AngleTurns (a0 : Nat) (a1 : Nat) : Nat := (impl_AngleTurns_tree a0 a1).val
def impl_AngleTurns_need (a0 : Nat) (a1 : Nat) : Bool := (impl_AngleTurns_tree a0 a1).ok
def impl_AngleTurns_mk (p : Nat) : Ret := ⟨.flt .f32 p, []⟩
def impl_AngleTurns_c : Con := fun args => match args with
  | [.flt .f32 a0, .flt .f32 a1] => some (.need (impl_AngleTurns_need a0 a1) (.leaf (impl_AngleTurns_mk (impl_AngleTurns a0 a1))))
  | _ => none
set_option maxRecDepth 100000 in
theorem impl_AngleTurns_ok : FunOK Try.prog 54 impl_AngleTurns_c.fn := by
  refine con_ok (Γ := gam [(43, impl_IsFinite_c), (83, math_NaN_c), (93, impl_angle_c)]) (gam_cons impl_IsFinite_ok (gam_cons math_NaN_ok (gam_cons impl_angle_ok (gam_nil)))) tab_ok (by kernel_rfl) Try.func54 (by kernel_rfl) (by kernel_rfl) Try.ntmps54 Try.results54 (loopsOK_none rfl _) 100000 fun args t h => ?_
  unfold impl_AngleTurns_c at h
  split at h
  · rename_i a0 a1
    cases h
    exact ⟨rfl, agree_need (mk := impl_AngleTurns_mk) (t := impl_AngleTurns_tree a0 a1) (by unfold Agree; kernel_rfl)⟩
  · cases h

/-- (loop.example/g01284/impl.Ball).face -/
def impl_Ball_face_tree (a0 : Ball) (a1 : Nat) : DT (Nat) :=
  let x0 := fmul .f32 a0.Spin a1;
  let x1 := fadd .f32 a0.Start x0;
  .leaf x1
def impl_Ball_face (a0 : Ball) (a1 : Nat) : Nat := (impl_Ball_face_tree a0 a1).val
def impl_Ball_face_mk (p : Nat) : Ret := ⟨.flt .f32 p, []⟩
def impl_Ball_face_c : Con := fun args => match args with
  | [.agg [.flt .f32 a0_0, .flt .f32 a0_1, .flt .f32 a0_2, .flt .f32 a0_3], .flt .f32 a1] => some (.leaf (impl_Ball_face_mk (impl_Ball_face (⟨a0_0, a0_1, a0_2, a0_3⟩ : Ball) a1)))
  | _ => none
set_option maxRecDepth 100000 in
theorem impl_Ball_face_ok : FunOK Try.prog 55 impl_Ball_face_c.fn := by
  refine con_ok (Γ := gam []) (gam_nil) tab_ok (by kernel_rfl) Try.func55 (by kernel_rfl) (by kernel_rfl) Try.ntmps55 Try.results55 (loopsOK_none rfl _) 100000 fun args t h => ?_
  unfold impl_Ball_face_c at h
  split at h
  · rename_i a0_0 a0_1 a0_2 a0_3 a1
    cases h
    exact ⟨rfl, agree_tot (mk := impl_Ball_face_mk) (t := impl_Ball_face_tree (⟨a0_0, a0_1, a0_2, a0_3⟩ : Ball) a1) (by unfold Agree; kernel_rfl) (by kernel_rfl)⟩
  · cases h

/-- loop.example/g01284/impl.floor32 -/
def impl_floor32_tree (a0 : Nat) : DT (Nat) :=
  .need ((fconvOk .f32 a0 .f64)) (
  let x0 := fconv .f32 a0 .f64;
  let x1 := math_Floor x0;
  .need ((fconvOk .f64 x1 .f32)) (
  let x2 := fconv .f64 x1 .f32;
  .leaf x2))
def impl_floor32 (a0 : Nat) : Nat := (impl_floor32_tree a0).val
def impl_floor32_need (a0 : Nat) : Bool := (impl_floor32_tree a0).ok
def impl_floor32_mk (p : Nat) : Ret := ⟨.flt .f32 p, []⟩
def impl_floor32_c : Con := fun args => match args with
  | [.flt .f32 a0] => some (.need (impl_floor32_need a0) (.leaf (impl_floor32_mk (impl_floor32 a0))))
  | _ => none
set_option maxRecDepth 100000 in
theorem impl_floor32_ok : FunOK Try.prog 94 impl_floor32_c.fn := by
  refine con_ok (Γ := gam [(88, math_Floor_c)]) (gam_cons math_Floor_ok (gam_nil)) tab_ok (by kernel_rfl) Try.func94 (by kernel_rfl) (by kernel_rfl) Try.ntmps94 Try.results94 (loopsOK_none rfl _) 100000 fun args t h => ?_
  unfold impl_floor32_c at h
  split at h
  · rename_i a0
    cases h
    exact ⟨rfl, agree_need (mk := impl_floor32_mk) (t := impl_floor32_tree a0) (by unfold Agree; kernel_rfl)⟩
  · cases h

/-- loop.example/g01284/impl.wrapTurn -/
def impl_wrapTurn_tree (a0 : Nat) : DT (Nat) :=
  let x0 := fadd .f32 a0 1056964608;
  .need ((impl_floor32_need x0)) (
  let x1 := impl_floor32 x0;
  let x2 := fsub .f32 a0 x1;
  let x3 := flt .f32 x2 3204448256;
  .ask x3
  (
   let x4 := fadd .f32 x2 1065353216;
   let x5 := flt .f32 x4 1056964608;
   .ask (!x5)
   (
    .leaf 3204448256)
   (
    .leaf x4))
  (
   let x4 := flt .f32 x2 1056964608;
   .ask (!x4)
   (
    .leaf 3204448256)
   (
    .leaf x2)))
def impl_wrapTurn (a0 : Nat) : Nat := (impl_wrapTurn_tree a0).val
def impl_wrapTurn_need (a0 : Nat) : Bool := (impl_wrapTurn_tree a0).ok
def impl_wrapTurn_mk (p : Nat) : Ret := ⟨.flt .f32 p, []⟩
def impl_wrapTurn_c : Con := fun args => match args with
  | [.flt .f32 a0] => some (.need (impl_wrapTurn_need a0) (.leaf (impl_wrapTurn_mk (impl_wrapTurn a0))))
  | _ => none
set_option maxRecDepth 100000 in
theorem impl_wrapTurn_ok : FunOK Try.prog 56 impl_wrapTurn_c.fn := by
  refine con_ok (Γ := gam [(94, impl_floor32_c)]) (gam_cons impl_floor32_ok (gam_nil)) tab_ok (by kernel_rfl) Try.func56 (by kernel_rfl) (by kernel_rfl) Try.ntmps56 Try.results56 (loopsOK_none rfl _) 100000 fun args t h => ?_
  unfold impl_wrapTurn_c at h
  split at h
  · rename_i a0
    cases h
    exact ⟨rfl, agree_need (mk := impl_wrapTurn_mk) (t := impl_wrapTurn_tree a0) (by unfold Agree; kernel_rfl)⟩
  · cases h

/-- loop.example/g01284/impl.InnerOf -/
def impl_InnerOf_tree (a0 : Vec) (a1 : Vec) : DT (Nat) :=
  let x0 := fmul .f32 a0.X a1.X;
  let x1 := fmul .f32 a0.Y a1.Y;
  let x2 := fadd .f32 x0 x1;
  let x3 := fmul .f32 a0.Z a1.Z;
  let x4 := fadd .f32 x2 x3;
  .leaf x4
def impl_InnerOf (a0 : Vec) (a1 : Vec) : Nat := (impl_InnerOf_tree a0 a1).val
def impl_InnerOf_mk (p : Nat) : Ret := ⟨.flt .f32 p, []⟩
def impl_InnerOf_c : Con := fun args => match args with
  | [.agg [.flt .f32 a0_0, .flt .f32 a0_1, .flt .f32 a0_2], .agg [.flt .f32 a1_0, .flt .f32 a1_1, .flt .f32 a1_2]] => some (.leaf (impl_InnerOf_mk (impl_InnerOf (⟨a0_0, a0_1, a0_2⟩ : Vec) (⟨a1_0, a1_1, a1_2⟩ : Vec))))
  | _ => none
set_option maxRecDepth 100000 in
theorem impl_InnerOf_ok : FunOK Try.prog 60 impl_InnerOf_c.fn := by
  refine con_ok (Γ := gam []) (gam_nil) tab_ok (by kernel_rfl) Try.func60 (by kernel_rfl) (by kernel_rfl) Try.ntmps60 Try.results60 (loopsOK_none rfl _) 100000 fun args t h => ?_
  unfold impl_InnerOf_c at h
  split at h
  · rename_i a0_0 a0_1 a0_2 a1_0 a1_1 a1_2
    cases h
    exact ⟨rfl, agree_tot (mk := impl_InnerOf_mk) (t := impl_InnerOf_tree (⟨a0_0, a0_1, a0_2⟩ : Vec) (⟨a1_0, a1_1, a1_2⟩ : Vec)) (by unfold Agree; kernel_rfl) (by kernel_rfl)⟩
  · cases h

/-- loop.example/g01284/impl.SizeOfVector -/
def impl_SizeOfVector_tree (a0 : Vec) : DT (Nat) :=
  let x0 := impl_InnerOf (⟨a0.X, a0.Y, a0.Z⟩ : Vec) (⟨a0.X, a0.Y, a0.Z⟩ : Vec);
  .need ((impl_RootNumber_need x0)) (
  let x1 := impl_RootNumber x0;
  .leaf x1)
def impl_SizeOfVector (a0 : Vec) : Nat := (impl_SizeOfVector_tree a0).val
def impl_SizeOfVector_need (a0 : Vec) : Bool := (impl_SizeOfVector_tree a0).ok
def impl_SizeOfVector_mk (p : Nat) : Ret := ⟨.flt .f32 p, []⟩
def impl_SizeOfVector_c : Con := fun args => match args with
  | [.agg [.flt .f32 a0_0, .flt .f32 a0_1, .flt .f32 a0_2]] => some (.need (impl_SizeOfVector_need (⟨a0_0, a0_1, a0_2⟩ : Vec)) (.leaf (impl_SizeOfVector_mk (impl_SizeOfVector (⟨a0_0, a0_1, a0_2⟩ : Vec)))))
  | _ => none
set_option maxRecDepth 100000 in
theorem impl_SizeOfVector_ok : FunOK Try.prog 29 impl_SizeOfVector_c.fn := by
  refine con_ok (Γ := gam [(60, impl_InnerOf_c), (53, impl_RootNumber_c)]) (gam_cons impl_InnerOf_ok (gam_cons impl_RootNumber_ok (gam_nil))) tab_ok (by kernel_rfl) Try.func29 (by kernel_rfl) (by kernel_rfl) Try.ntmps29 Try.results29 (loopsOK_none rfl _) 100000 fun args t h => ?_
  unfold impl_SizeOfVector_c at h
  split at h
  · rename_i a0_0 a0_1 a0_2
    cases h
    exact ⟨rfl, agree_need (mk := impl_SizeOfVector_mk) (t := impl_SizeOfVector_tree (⟨a0_0, a0_1, a0_2⟩ : Vec)) (by unfold Agree; kernel_rfl)⟩
  · cases h

/-- loop.example/g01284/impl.ValidMark -/
def impl_ValidMark_tree (a0 : Mark) : DT (Bool) :=
  let x0 := fge .f32 a0.North 3196059648;
  .ask x0
  (
   let x1 := fle .f32 a0.North 1048576000;
   .ask x1
   (
    let x2 := fge .f32 a0.East 3204448256;
    .ask x2
    (
     let x3 := flt .f32 a0.East 1056964608;
     .ask x3
     (
      .need ((impl_IsFinite_need a0.High)) (
      let x4 := impl_IsFinite a0.High;
      .leaf x4))
     (
      .leaf false))
    (
     .leaf false))
   (
    .leaf false))
  (
   .leaf false)
def impl_ValidMark (a0 : Mark) : Bool := (impl_ValidMark_tree a0).val
def impl_ValidMark_need (a0 : Mark) : Bool := (impl_ValidMark_tree a0).ok
def impl_ValidMark_mk (p : Bool) : Ret := ⟨.bool p, []⟩
def impl_ValidMark_c : Con := fun args => match args with
  | [.agg [.flt .f32 a0_0, .flt .f32 a0_1, .flt .f32 a0_2]] => some (.need (impl_ValidMark_need (⟨a0_0, a0_1, a0_2⟩ : Mark)) (.leaf (impl_ValidMark_mk (impl_ValidMark (⟨a0_0, a0_1, a0_2⟩ : Mark)))))
  | _ => none
set_option maxRecDepth 100000 in
theorem impl_ValidMark_ok : FunOK Try.prog 42 impl_ValidMark_c.fn := by
  refine con_ok (Γ := gam [(43, impl_IsFinite_c)]) (gam_cons impl_IsFinite_ok (gam_nil)) tab_ok (by kernel_rfl) Try.func42 (by kernel_rfl) (by kernel_rfl) Try.ntmps42 Try.results42 (loopsOK_none rfl _) 100000 fun args t h => ?_
  unfold impl_ValidMark_c at h
  split at h
  · rename_i a0_0 a0_1 a0_2
    cases h
    exact ⟨rfl, agree_need (mk := impl_ValidMark_mk) (t := impl_ValidMark_tree (⟨a0_0, a0_1, a0_2⟩ : Mark)) (by unfold Agree; kernel_rfl)⟩
  · cases h

/-- loop.example/g01284/impl.MarkOf -/
def impl_MarkOf_tree (a0 : Ball) (a1 : Vec) (a2 : Nat) : DT (Mark × Bool) :=
  .need ((impl_ValidBall_need (⟨a0.Mass, a0.Radius, a0.Spin, a0.Start⟩ : Ball))) (
  let x0 := impl_ValidBall (⟨a0.Mass, a0.Radius, a0.Spin, a0.Start⟩ : Ball);
  .ask (!x0)
  (
   .leaf ((⟨0, 0, 0⟩ : Mark), false))
  (
   .need ((impl_isFiniteVector_need (⟨a1.X, a1.Y, a1.Z⟩ : Vec))) (
   let x1 := impl_isFiniteVector (⟨a1.X, a1.Y, a1.Z⟩ : Vec);
   .ask (!x1)
   (
    .leaf ((⟨0, 0, 0⟩ : Mark), false))
   (
    .need ((impl_IsFinite_need a2)) (
    let x2 := impl_IsFinite a2;
    .ask (!x2)
    (
     .leaf ((⟨0, 0, 0⟩ : Mark), false))
    (
     let x3 := fmul .f32 a1.X a1.X;
     let x4 := fmul .f32 a1.Y a1.Y;
     let x5 := fadd .f32 x3 x4;
     .need ((impl_RootNumber_need x5)) (
     let x6 := impl_RootNumber x5;
     .need ((impl_AngleTurns_need a1.Z x6)) (
     let x7 := impl_AngleTurns a1.Z x6;
     let x8 := fgt .f32 x7 1048576000;
     .ask x8
     (
      let x9 := flt .f32 1048576000 3196059648;
      .ask x9
      (
       .need ((impl_AngleTurns_need a1.Y a1.X)) (
       let x10 := impl_AngleTurns a1.Y a1.X;
       let x11 := impl_Ball_face (⟨a0.Mass, a0.Radius, a0.Spin, a0.Start⟩ : Ball) a2;
       let x12 := fsub .f32 x10 x11;
       .need ((impl_IsFinite_need x12)) (
       let x13 := impl_IsFinite x12;
       .ask (!x13)
       (
        .leaf ((⟨0, 0, 0⟩ : Mark), false))
       (
        .need ((impl_wrapTurn_need x12)) (
        let x14 := impl_wrapTurn x12;
        .need ((impl_SizeOfVector_need (⟨a1.X, a1.Y, a1.Z⟩ : Vec))) (
        let x15 := impl_SizeOfVector (⟨a1.X, a1.Y, a1.Z⟩ : Vec);
        let x16 := fsub .f32 x15 a0.Radius;
        .need ((impl_ValidMark_need (⟨3196059648, x14, x16⟩ : Mark))) (
        let x17 := impl_ValidMark (⟨3196059648, x14, x16⟩ : Mark);
        .ask (!x17)
        (
         .leaf ((⟨0, 0, 0⟩ : Mark), false))
        (
         .leaf ((⟨3196059648, x14, x16⟩ : Mark), true)))))))))
      (
       .need ((impl_AngleTurns_need a1.Y a1.X)) (
       let x10 := impl_AngleTurns a1.Y a1.X;
       let x11 := impl_Ball_face (⟨a0.Mass, a0.Radius, a0.Spin, a0.Start⟩ : Ball) a2;
       let x12 := fsub .f32 x10 x11;
       .need ((impl_IsFinite_need x12)) (
       let x13 := impl_IsFinite x12;
       .ask (!x13)
       (
        .leaf ((⟨0, 0, 0⟩ : Mark), false))
       (
        .need ((impl_wrapTurn_need x12)) (
        let x14 := impl_wrapTurn x12;
        .need ((impl_SizeOfVector_need (⟨a1.X, a1.Y, a1.Z⟩ : Vec))) (
        let x15 := impl_SizeOfVector (⟨a1.X, a1.Y, a1.Z⟩ : Vec);
        let x16 := fsub .f32 x15 a0.Radius;
        .need ((impl_ValidMark_need (⟨1048576000, x14, x16⟩ : Mark))) (
        let x17 := impl_ValidMark (⟨1048576000, x14, x16⟩ : Mark);
        .ask (!x17)
        (
         .leaf ((⟨0, 0, 0⟩ : Mark), false))
        (
         .leaf ((⟨1048576000, x14, x16⟩ : Mark), true))))))))))
     (
      let x9 := flt .f32 x7 3196059648;
      .ask x9
      (
       .need ((impl_AngleTurns_need a1.Y a1.X)) (
       let x10 := impl_AngleTurns a1.Y a1.X;
       let x11 := impl_Ball_face (⟨a0.Mass, a0.Radius, a0.Spin, a0.Start⟩ : Ball) a2;
       let x12 := fsub .f32 x10 x11;
       .need ((impl_IsFinite_need x12)) (
       let x13 := impl_IsFinite x12;
       .ask (!x13)
       (
        .leaf ((⟨0, 0, 0⟩ : Mark), false))
       (
        .need ((impl_wrapTurn_need x12)) (
        let x14 := impl_wrapTurn x12;
        .need ((impl_SizeOfVector_need (⟨a1.X, a1.Y, a1.Z⟩ : Vec))) (
        let x15 := impl_SizeOfVector (⟨a1.X, a1.Y, a1.Z⟩ : Vec);
        let x16 := fsub .f32 x15 a0.Radius;
        .need ((impl_ValidMark_need (⟨3196059648, x14, x16⟩ : Mark))) (
        let x17 := impl_ValidMark (⟨3196059648, x14, x16⟩ : Mark);
        .ask (!x17)
        (
         .leaf ((⟨0, 0, 0⟩ : Mark), false))
        (
         .leaf ((⟨3196059648, x14, x16⟩ : Mark), true)))))))))
      (
       .need ((impl_AngleTurns_need a1.Y a1.X)) (
       let x10 := impl_AngleTurns a1.Y a1.X;
       let x11 := impl_Ball_face (⟨a0.Mass, a0.Radius, a0.Spin, a0.Start⟩ : Ball) a2;
       let x12 := fsub .f32 x10 x11;
       .need ((impl_IsFinite_need x12)) (
       let x13 := impl_IsFinite x12;
       .ask (!x13)
       (
        .leaf ((⟨0, 0, 0⟩ : Mark), false))
       (
        .need ((impl_wrapTurn_need x12)) (
        let x14 := impl_wrapTurn x12;
        .need ((impl_SizeOfVector_need (⟨a1.X, a1.Y, a1.Z⟩ : Vec))) (
        let x15 := impl_SizeOfVector (⟨a1.X, a1.Y, a1.Z⟩ : Vec);
        let x16 := fsub .f32 x15 a0.Radius;
        .need ((impl_ValidMark_need (⟨x7, x14, x16⟩ : Mark))) (
        let x17 := impl_ValidMark (⟨x7, x14, x16⟩ : Mark);
        .ask (!x17)
        (
         .leaf ((⟨0, 0, 0⟩ : Mark), false))
        (
         .leaf ((⟨x7, x14, x16⟩ : Mark), true))))))))))))))))))
def impl_MarkOf (a0 : Ball) (a1 : Vec) (a2 : Nat) : Mark × Bool := (impl_MarkOf_tree a0 a1 a2).val
def impl_MarkOf_need (a0 : Ball) (a1 : Vec) (a2 : Nat) : Bool := (impl_MarkOf_tree a0 a1 a2).ok
def impl_MarkOf_mk (p : Mark × Bool) : Ret := ⟨.tup [.agg [.flt .f32 p.1.North, .flt .f32 p.1.East, .flt .f32 p.1.High], .bool p.2], []⟩
def impl_MarkOf_c : Con := fun args => match args with
  | [.agg [.flt .f32 a0_0, .flt .f32 a0_1, .flt .f32 a0_2, .flt .f32 a0_3], .agg [.flt .f32 a1_0, .flt .f32 a1_1, .flt .f32 a1_2], .flt .f32 a2] => some (.need (impl_MarkOf_need (⟨a0_0, a0_1, a0_2, a0_3⟩ : Ball) (⟨a1_0, a1_1, a1_2⟩ : Vec) a2) (.leaf (impl_MarkOf_mk (impl_MarkOf (⟨a0_0, a0_1, a0_2, a0_3⟩ : Ball) (⟨a1_0, a1_1, a1_2⟩ : Vec) a2))))
  | _ => none
set_option maxRecDepth 100000 in
theorem impl_MarkOf_ok : FunOK Try.prog 17 impl_MarkOf_c.fn := by
  refine con_ok (Γ := gam [(52, impl_ValidBall_c), (51, impl_isFiniteVector_c), (43, impl_IsFinite_c), (53, impl_RootNumber_c), (54, impl_AngleTurns_c), (55, impl_Ball_face_c), (56, impl_wrapTurn_c), (29, impl_SizeOfVector_c), (42, impl_ValidMark_c)]) (gam_cons impl_ValidBall_ok (gam_cons impl_isFiniteVector_ok (gam_cons impl_IsFinite_ok (gam_cons impl_RootNumber_ok (gam_cons impl_AngleTurns_ok (gam_cons impl_Ball_face_ok (gam_cons impl_wrapTurn_ok (gam_cons impl_SizeOfVector_ok (gam_cons impl_ValidMark_ok (gam_nil)))))))))) tab_ok (by kernel_rfl) Try.func17 (by kernel_rfl) (by kernel_rfl) Try.ntmps17 Try.results17 (loopsOK_none rfl _) 100000 fun args t h => ?_
  unfold impl_MarkOf_c at h
  split at h
  · rename_i a0_0 a0_1 a0_2 a0_3 a1_0 a1_1 a1_2 a2
    cases h
    exact ⟨rfl, agree_need (mk := impl_MarkOf_mk) (t := impl_MarkOf_tree (⟨a0_0, a0_1, a0_2, a0_3⟩ : Ball) (⟨a1_0, a1_1, a1_2⟩ : Vec) a2) (by unfold Agree; kernel_rfl)⟩
  · cases h

/-- a loop of impl_TrackOf -/
def impl_TrackOf_loop0_step (p : Nat × Nat × Int × Nat × Nat × Nat × Nat × Nat × Nat × Nat × Nat × Nat × Nat) (s : Int × List Mark) : Round (Int × List Mark) ((Unit) ⊕ (List Mark)) :=
  let x0 := decide (s.1 < p.2.2.1);
  .ask x0
  (
   let x1 := fofInt .f32 s.1;
   let x2 := fmul .f32 x1 p.2.1;
   let x3 := fadd .f32 p.1 x2;
   .need ((impl_Ball_passed_need (⟨p.2.2.2.1, p.2.2.2.2.1, p.2.2.2.2.2.1, p.2.2.2.2.2.2.1⟩ : Ball) (⟨p.2.2.2.2.2.2.2.1, p.2.2.2.2.2.2.2.2.1, p.2.2.2.2.2.2.2.2.2.1, p.2.2.2.2.2.2.2.2.2.2.1, p.2.2.2.2.2.2.2.2.2.2.2.1, p.2.2.2.2.2.2.2.2.2.2.2.2⟩ : Orbit) x3)) (
   let x4 := impl_Ball_passed (⟨p.2.2.2.1, p.2.2.2.2.1, p.2.2.2.2.2.1, p.2.2.2.2.2.2.1⟩ : Ball) (⟨p.2.2.2.2.2.2.2.1, p.2.2.2.2.2.2.2.2.1, p.2.2.2.2.2.2.2.2.2.1, p.2.2.2.2.2.2.2.2.2.2.1, p.2.2.2.2.2.2.2.2.2.2.2.1, p.2.2.2.2.2.2.2.2.2.2.2.2⟩ : Orbit) x3;
   .need ((impl_MarkOf_need (⟨p.2.2.2.1, p.2.2.2.2.1, p.2.2.2.2.2.1, p.2.2.2.2.2.2.1⟩ : Ball) (⟨x4.1.X, x4.1.Y, x4.1.Z⟩ : Vec) x3)) (
   let x5 := impl_MarkOf (⟨p.2.2.2.1, p.2.2.2.2.1, p.2.2.2.2.2.1, p.2.2.2.2.2.2.1⟩ : Ball) (⟨x4.1.X, x4.1.Y, x4.1.Z⟩ : Vec) x3;
   .ask (!x4.2)
   (
    .leaf (.inr (.inl ()), []))
   (
    .ask (!x5.2)
    (
     .leaf (.inr (.inl ()), []))
    (
     .need ((decide ((List.length s.2 + List.length [(⟨x5.1.North, x5.1.East, x5.1.High⟩ : Mark)]) * 12 ≤ 140737488355328) && decide (List.length s.2 + List.length [(⟨x5.1.North, x5.1.East, x5.1.High⟩ : Mark)] ≤ 9223372036854775807))) (
     let x6 := s.2 ++ [(⟨x5.1.North, x5.1.East, x5.1.High⟩ : Mark)];
     let x7 := IntKind.wrap .i64 (s.1 + 1);
     .leaf (.inl (x7, x6), [0, 1, 315])))))))
  (
   .leaf (.inr (.inr s.2), [2]))
def impl_TrackOf_loop0_L (p : Nat × Nat × Int × Nat × Nat × Nat × Nat × Nat × Nat × Nat × Nat × Nat × Nat) : LoopS (Int × List Mark) ((Unit) ⊕ (List Mark)) := { tl := fun s => [.junk, .junk, .flt .f32 p.1, .flt .f32 p.2.1, .junk, .ptr 0 0, .ptr 1 0, .junk, .junk, .junk, .junk, .junk, .own 2, .junk, .junk, .junk, .junk, .junk, .junk, .junk, .junk, .junk, .junk, .junk, .junk, .junk, .junk, .int .i64 p.2.2.1, .int .i64 s.1], hl := fun s => [some (.cells [.flt .f32 p.2.2.2.1, .flt .f32 p.2.2.2.2.1, .flt .f32 p.2.2.2.2.2.1, .flt .f32 p.2.2.2.2.2.2.1]), some (.cells [.flt .f32 p.2.2.2.2.2.2.2.1, .flt .f32 p.2.2.2.2.2.2.2.2.1, .flt .f32 p.2.2.2.2.2.2.2.2.2.1, .flt .f32 p.2.2.2.2.2.2.2.2.2.2.1, .flt .f32 p.2.2.2.2.2.2.2.2.2.2.2.1, .flt .f32 p.2.2.2.2.2.2.2.2.2.2.2.2]), some (.typed 44 .mark s.2)], ex := fun r => match r with | .inl r => .ret | .inr r => .exit 0, otl := fun r => match r with | .inl r => [.junk, .junk, .junk, .junk, .junk, .junk, .junk, .junk, .junk, .junk, .nils, .bool false] | .inr r => [.junk, .junk, .junk, .junk, .junk, .junk, .junk, .junk, .junk, .junk, .junk, .junk, .own 0], ohl := fun r => match r with | .inl r => [] | .inr r => [some (.typed 44 .mark r)] }
def impl_TrackOf_loop0_ext : St → Option ((Nat × Nat × Int × Nat × Nat × Nat × Nat × Nat × Nat × Nat × Nat × Nat × Nat) × (Int × List Mark) × List Nat) := fun S => match (S.tm 2).unK, (S.tm 3).unK, (S.tm 5).unK, (S.tm 6).unK, (S.tm 12).unK, (S.tm 27).unK, (S.tm 28).unK with
  | .flt .f32 q0, .flt .f32 q1, .ptr i0 0, .ptr i1 0, .own i2, .int .i64 q2, .int .i64 q3 => (match S.hp i0 with
    | some (.cells [.flt .f32 q4, .flt .f32 q5, .flt .f32 q6, .flt .f32 q7]) => (match S.hp i1 with
    | some (.cells [.flt .f32 q8, .flt .f32 q9, .flt .f32 q10, .flt .f32 q11, .flt .f32 q12, .flt .f32 q13]) => (match S.hp i2 with
    | some (.typed 44 .mark q14) => (if nodup [i0, i1, i2] = true then some ((q0, q1, q2, q4, q5, q6, q7, q8, q9, q10, q11, q12, q13), (q3, q14), [i0, i1, i2]) else none)
    | _ => none)
    | _ => none)
    | _ => none)
  | _, _, _, _, _, _, _ => none
def impl_TrackOf_loop0_post (p : Nat × Nat × Int × Nat × Nat × Nat × Nat × Nat × Nat × Nat × Nat × Nat × Nat) (r : (Unit) ⊕ (List Mark)) : DT (Ex × St) := .ask (isL r) (.leaf (.ret, LSt [.junk, .junk, .junk, .junk, .junk, .junk, .junk, .junk, .junk, .junk, .nils, .bool false] [])) (.leaf (.exit 0, LSt [.junk, .junk, .junk, .junk, .junk, .junk, .junk, .junk, .junk, .junk, .junk, .junk, .own 0] [some (.typed 44 .mark ((rightD r)))]))
def impl_TrackOf_loop0 (p : Nat × Nat × Int × Nat × Nat × Nat × Nat × Nat × Nat × Nat × Nat × Nat × Nat) (s : Int × List Mark) : (Unit) ⊕ (List Mark) := loopVal (impl_TrackOf_loop0_step p) s
def impl_TrackOf_loop0_ends (p : Nat × Nat × Int × Nat × Nat × Nat × Nat × Nat × Nat × Nat × Nat × Nat × Nat) (s : Int × List Mark) : Bool := loopEnds (impl_TrackOf_loop0_step p) s
def impl_TrackOf_loop0_F : LoopF := loopF impl_TrackOf_loop0_step impl_TrackOf_loop0_ext impl_TrackOf_loop0_post
set_option maxRecDepth 100000 in
theorem impl_TrackOf_loop0_hext : ∀ S p s fl, impl_TrackOf_loop0_ext S = some (p, s, fl) → Norm S fl ((impl_TrackOf_loop0_L p).tl s) ((impl_TrackOf_loop0_L p).hl s) (impl_TrackOf_loop0_L p).gl := by
  intro S p s fl h
  unfold impl_TrackOf_loop0_ext at h
  (repeat' split at h) <;> first
    | (cases h; constructor <;> simp_all [impl_TrackOf_loop0_L, keepT, keepH, rens, renH, PV.ren, Blk.ren, fOf, lget, nodup, natIn, lenEq, gtm, PV.unK])
    | cases h
set_option maxRecDepth 100000 in
theorem impl_TrackOf_loop0_hpost : ∀ p r e S', (impl_TrackOf_loop0_post p r).get = some (e, S') → e = (impl_TrackOf_loop0_L p).ex r ∧ S' = LSt ((impl_TrackOf_loop0_L p).otl r) ((impl_TrackOf_loop0_L p).ohl r) ((impl_TrackOf_loop0_L p).ogl r) := by
  intro p r e S' h
  unfold impl_TrackOf_loop0_post at h
  cases r <;> (simp only [isL, DT.get, Option.some.injEq, Prod.mk.injEq] at h; exact ⟨h.1.symm, h.2.symm⟩)

def impl_TrackOf_loops : Nat → Option LoopF := loopTab [(5, impl_TrackOf_loop0_F)]
set_option maxRecDepth 100000 in
theorem impl_TrackOf_l0 : LoopOK Try.prog ⟨gam [(40, impl_isTrack_c), (41, impl_Ball_passed_c), (17, impl_MarkOf_c)], tab, 63, impl_TrackOf_loops⟩ (lp Try.f12 0) :=
  loopOK_some (F := impl_TrackOf_loop0_F) (by kernel_rfl) (loopF_ok (E := ⟨gam [(40, impl_isTrack_c), (41, impl_Ball_passed_c), (17, impl_MarkOf_c)], tab, 63, impl_TrackOf_loops⟩) ⟨gam_cons impl_isTrack_ok (gam_cons impl_Ball_passed_ok (gam_cons impl_MarkOf_ok (gam_nil))), tab_ok, by kernel_rfl⟩ (fuel := 100000) (loopsOK_list (l := []) (by kernel_rfl) trivial) (L := impl_TrackOf_loop0_L) (fun p s => by unfold AgreeL; exact ⟨by kernel_rfl, by kernel_rfl⟩) (fun _ r h => by cases r <;> exact Ex.noConfusion h) impl_TrackOf_loop0_hext impl_TrackOf_loop0_hpost)
/-- loop.example/g01284/impl.TrackOf -/
def impl_TrackOf_tree (a0 : Ball) (a1 : Orbit) (a2 : Nat) (a3 : Nat) (a4 : Int) : DT ((Unit) ⊕ (List Mark)) :=
  .need ((impl_isTrack_need (⟨a0.Mass, a0.Radius, a0.Spin, a0.Start⟩ : Ball) (⟨a1.Long, a1.Round, a1.Tilt, a1.Node, a1.Peri, a1.Phase⟩ : Orbit) a2 a3 a4)) (
  let x0 := impl_isTrack (⟨a0.Mass, a0.Radius, a0.Spin, a0.Start⟩ : Ball) (⟨a1.Long, a1.Round, a1.Tilt, a1.Node, a1.Peri, a1.Phase⟩ : Orbit) a2 a3 a4;
  .ask (!x0)
  (
   .leaf (.inl ()))
  (
   .need ((impl_TrackOf_loop0_ends (a2, a3, a4, a0.Mass, a0.Radius, a0.Spin, a0.Start, a1.Long, a1.Round, a1.Tilt, a1.Node, a1.Peri, a1.Phase) (0, []))) (
   let x1 := impl_TrackOf_loop0 (a2, a3, a4, a0.Mass, a0.Radius, a0.Spin, a0.Start, a1.Long, a1.Round, a1.Tilt, a1.Node, a1.Peri, a1.Phase) (0, []);
   .ask ((isL x1))
   (
    .leaf (.inl ()))
   (
    .leaf (.inr ((rightD x1)))))))
def impl_TrackOf (a0 : Ball) (a1 : Orbit) (a2 : Nat) (a3 : Nat) (a4 : Int) : (Unit) ⊕ (List Mark) := (impl_TrackOf_tree a0 a1 a2 a3 a4).val
def impl_TrackOf_need (a0 : Ball) (a1 : Orbit) (a2 : Nat) (a3 : Nat) (a4 : Int) : Bool := (impl_TrackOf_tree a0 a1 a2 a3 a4).ok
def impl_TrackOf_mk0 (p : Unit) : Ret := ⟨.tup [.nils, .bool false], []⟩
def impl_TrackOf_mk1 (p : List Mark) : Ret := ⟨.tup [.own 0, .bool true], [.typed 44 .mark p]⟩
def impl_TrackOf_mk : (Unit) ⊕ (List Mark) → Ret := fun v => match v with
  | (.inl p) => impl_TrackOf_mk0 p
  | (.inr p) => impl_TrackOf_mk1 p
def impl_TrackOf_forms (v : (Unit) ⊕ (List Mark)) : DT Ret := .ask (isL v) (.leaf (impl_TrackOf_mk0 (leftD v))) (.leaf (impl_TrackOf_mk1 (rightD v)))
theorem impl_TrackOf_forms_get : ∀ v, (impl_TrackOf_forms v).get = some (impl_TrackOf_mk v) := by
  intro v
  rcases v with v | v <;> rfl
def impl_TrackOf_c : Con := fun args => match args with
  | [.agg [.flt .f32 a0_0, .flt .f32 a0_1, .flt .f32 a0_2, .flt .f32 a0_3], .agg [.flt .f32 a1_0, .flt .f32 a1_1, .flt .f32 a1_2, .flt .f32 a1_3, .flt .f32 a1_4, .flt .f32 a1_5], .flt .f32 a2, .flt .f32 a3, .int .i64 a4] => some (.need (impl_TrackOf_need (⟨a0_0, a0_1, a0_2, a0_3⟩ : Ball) (⟨a1_0, a1_1, a1_2, a1_3, a1_4, a1_5⟩ : Orbit) a2 a3 a4) (impl_TrackOf_forms (impl_TrackOf (⟨a0_0, a0_1, a0_2, a0_3⟩ : Ball) (⟨a1_0, a1_1, a1_2, a1_3, a1_4, a1_5⟩ : Orbit) a2 a3 a4)))
  | _ => none
set_option maxRecDepth 100000 in
theorem impl_TrackOf_ok : FunOK Try.prog 12 impl_TrackOf_c.fn := by
  refine con_ok (Γ := gam [(40, impl_isTrack_c), (41, impl_Ball_passed_c), (17, impl_MarkOf_c)]) (gam_cons impl_isTrack_ok (gam_cons impl_Ball_passed_ok (gam_cons impl_MarkOf_ok (gam_nil)))) tab_ok (by kernel_rfl) Try.func12 (by kernel_rfl) (by kernel_rfl) Try.ntmps12 Try.results12 (loops := impl_TrackOf_loops) (loopsOK_list (l := [lp Try.f12 0]) (by kernel_rfl) ⟨impl_TrackOf_l0, trivial⟩) 100000 fun args t h => ?_
  unfold impl_TrackOf_c at h
  split at h
  · rename_i a0_0 a0_1 a0_2 a0_3 a1_0 a1_1 a1_2 a1_3 a1_4 a1_5 a2 a3 a4
    cases h
    exact ⟨rfl, agree_forms (mk := impl_TrackOf_mk) (t := impl_TrackOf_tree (⟨a0_0, a0_1, a0_2, a0_3⟩ : Ball) (⟨a1_0, a1_1, a1_2, a1_3, a1_4, a1_5⟩ : Orbit) a2 a3 a4) (by unfold Agree; kernel_rfl) (fun h => h) (impl_TrackOf_forms_get _)⟩
  · cases h

/-- loop.example/g01284/spec.R8Mark -/
def spec_R8Mark_tree (a0 : List Int) : DT (Mark) :=
  .need ((spec_l00Src_pick_need a0 0 0 29)) (
  let x0 := spec_l00Src_pick a0 0 0 29;
  let x1 := IntKind.wrap .i64 (x0.1 - 14);
  let x2 := fofInt .f32 x1;
  let x3 := fdiv .f32 x2 1115684864;
  .need ((spec_l00Src_pick_need a0 x0.2.1 x0.2.2 31)) (
  let x4 := spec_l00Src_pick a0 x0.2.1 x0.2.2 31;
  let x5 := IntKind.wrap .i64 (x4.1 - 15);
  let x6 := fofInt .f32 x5;
  let x7 := fdiv .f32 x6 1107296256;
  .need ((spec_l00Src_pick_need a0 x4.2.1 x4.2.2 5)) (
  let x8 := spec_l00Src_pick a0 x4.2.1 x4.2.2 5;
  let x9 := fofInt .f32 x8.1;
  let x10 := fdiv .f32 x9 1082130432;
  .leaf ((⟨x3, x7, x10⟩ : Mark)))))
def spec_R8Mark (a0 : List Int) : Mark := (spec_R8Mark_tree a0).val
def spec_R8Mark_need (a0 : List Int) : Bool := (spec_R8Mark_tree a0).ok
def spec_R8Mark_mk (p : Mark) : Ret := ⟨.agg [.flt .f32 p.North, .flt .f32 p.East, .flt .f32 p.High], []⟩
def spec_R8Mark_c0 : Con := fun args => match args with
  | [.vslc 1 (.int .u8) a0] => some (.need (spec_R8Mark_need a0) (.leaf (spec_R8Mark_mk (spec_R8Mark a0))))
  | _ => none
set_option maxRecDepth 100000 in
theorem spec_R8Mark_ok0 : FunOK Try.prog 14 spec_R8Mark_c0.fn := by
  refine con_ok (Γ := gam [] [] [(39, spec_l00Src_pick_M)] [(37, spec_l00From_M)]) (gam_box spec_l00Src_pick_ok (gam_new spec_l00From_ok (gam_nil))) tab_ok (by kernel_rfl) Try.func14 (by kernel_rfl) (by kernel_rfl) Try.ntmps14 Try.results14 (loopsOK_none rfl _) 100000 fun args t h => ?_
  unfold spec_R8Mark_c0 at h
  split at h
  · rename_i a0
    cases h
    exact ⟨rfl, agree_need (mk := spec_R8Mark_mk) (t := spec_R8Mark_tree a0) (by unfold Agree; kernel_rfl)⟩
  · cases h
def spec_R8Mark_c : Con := fun args => spec_R8Mark_c0 (norms 0 [.slc (.int .u8)] args)
set_option maxRecDepth 100000 in
theorem spec_R8Mark_ok : FunOK Try.prog 14 spec_R8Mark_c.fn := con_norm [.slc (.int .u8)] spec_R8Mark_ok0

/-- loop.example/g01284/impl.SineTurns -/
def impl_SineTurns_tree (a0 : Nat) : DT (Nat) :=
  .need ((impl_IsFinite_need a0)) (
  let x0 := impl_IsFinite a0;
  .ask (!x0)
  (
   let x1 := math_NaN ;
   .need ((fconvOk .f64 x1 .f32)) (
   let x2 := fconv .f64 x1 .f32;
   .leaf x2))
  (
   .need ((fconvOk .f32 a0 .f64)) (
   let x1 := fconv .f32 a0 .f64;
   let x2 := math_Abs x1;
   let x3 := fge .f64 x2 4841369599423283200;
   .ask x3
   (
    .leaf 0)
   (
    .need ((fconvOk .f32 a0 .f64)) (
    let x4 := fconv .f32 a0 .f64;
    let x5 := impl_sine x4;
    .need ((fconvOk .f64 x5 .f32)) (
    let x6 := fconv .f64 x5 .f32;
    .leaf x6))))))
def impl_SineTurns (a0 : Nat) : Nat := (impl_SineTurns_tree a0).val
def impl_SineTurns_need (a0 : Nat) : Bool := (impl_SineTurns_tree a0).ok
def impl_SineTurns_mk (p : Nat) : Ret := ⟨.flt .f32 p, []⟩
def impl_SineTurns_c : Con := fun args => match args with
  | [.flt .f32 a0] => some (.need (impl_SineTurns_need a0) (.leaf (impl_SineTurns_mk (impl_SineTurns a0))))
  | _ => none
set_option maxRecDepth 100000 in
theorem impl_SineTurns_ok : FunOK Try.prog 44 impl_SineTurns_c.fn := by
  refine con_ok (Γ := gam [(43, impl_IsFinite_c), (83, math_NaN_c), (84, math_Abs_c), (85, impl_sine_c)]) (gam_cons impl_IsFinite_ok (gam_cons math_NaN_ok (gam_cons math_Abs_ok (gam_cons impl_sine_ok (gam_nil))))) tab_ok (by kernel_rfl) Try.func44 (by kernel_rfl) (by kernel_rfl) Try.ntmps44 Try.results44 (loopsOK_none rfl _) 100000 fun args t h => ?_
  unfold impl_SineTurns_c at h
  split at h
  · rename_i a0
    cases h
    exact ⟨rfl, agree_need (mk := impl_SineTurns_mk) (t := impl_SineTurns_tree a0) (by unfold Agree; kernel_rfl)⟩
  · cases h

/-- loop.example/g01284/impl.cos -/
def impl_cos_tree (a0 : Nat) : DT (Nat) :=
  let x0 := fadd .f32 a0 1048576000;
  .need ((impl_SineTurns_need x0)) (
  let x1 := impl_SineTurns x0;
  .leaf x1)
def impl_cos (a0 : Nat) : Nat := (impl_cos_tree a0).val
def impl_cos_need (a0 : Nat) : Bool := (impl_cos_tree a0).ok
def impl_cos_mk (p : Nat) : Ret := ⟨.flt .f32 p, []⟩
def impl_cos_c : Con := fun args => match args with
  | [.flt .f32 a0] => some (.need (impl_cos_need a0) (.leaf (impl_cos_mk (impl_cos a0))))
  | _ => none
set_option maxRecDepth 100000 in
theorem impl_cos_ok : FunOK Try.prog 123 impl_cos_c.fn := by
  refine con_ok (Γ := gam [(44, impl_SineTurns_c)]) (gam_cons impl_SineTurns_ok (gam_nil)) tab_ok (by kernel_rfl) Try.func123 (by kernel_rfl) (by kernel_rfl) Try.ntmps123 Try.results123 (loopsOK_none rfl _) 100000 fun args t h => ?_
  unfold impl_cos_c at h
  split at h
  · rename_i a0
    cases h
    exact ⟨rfl, agree_need (mk := impl_cos_mk) (t := impl_cos_tree a0) (by unfold Agree; kernel_rfl)⟩
  · cases h

/-- (loop.example/g01284/impl.Ball).place -/
def impl_Ball_place_tree (a0 : Ball) (a1 : Mark) (a2 : Nat) : DT (Vec) :=
  let x0 := fadd .f32 a0.Radius a1.High;
  .need ((impl_cos_need a1.North)) (
  let x1 := impl_cos a1.North;
  let x2 := fmul .f32 x0 x1;
  let x3 := impl_Ball_face (⟨a0.Mass, a0.Radius, a0.Spin, a0.Start⟩ : Ball) a2;
  let x4 := fadd .f32 a1.East x3;
  .need ((impl_cos_need x4)) (
  let x5 := impl_cos x4;
  let x6 := fmul .f32 x2 x5;
  .need ((impl_SineTurns_need x4)) (
  let x7 := impl_SineTurns x4;
  let x8 := fmul .f32 x2 x7;
  .need ((impl_SineTurns_need a1.North)) (
  let x9 := impl_SineTurns a1.North;
  let x10 := fmul .f32 x0 x9;
  .leaf ((⟨x6, x8, x10⟩ : Vec))))))
def impl_Ball_place (a0 : Ball) (a1 : Mark) (a2 : Nat) : Vec := (impl_Ball_place_tree a0 a1 a2).val
def impl_Ball_place_need (a0 : Ball) (a1 : Mark) (a2 : Nat) : Bool := (impl_Ball_place_tree a0 a1 a2).ok
def impl_Ball_place_mk (p : Vec) : Ret := ⟨.agg [.flt .f32 p.X, .flt .f32 p.Y, .flt .f32 p.Z], []⟩
def impl_Ball_place_c : Con := fun args => match args with
  | [.agg [.flt .f32 a0_0, .flt .f32 a0_1, .flt .f32 a0_2, .flt .f32 a0_3], .agg [.flt .f32 a1_0, .flt .f32 a1_1, .flt .f32 a1_2], .flt .f32 a2] => some (.need (impl_Ball_place_need (⟨a0_0, a0_1, a0_2, a0_3⟩ : Ball) (⟨a1_0, a1_1, a1_2⟩ : Mark) a2) (.leaf (impl_Ball_place_mk (impl_Ball_place (⟨a0_0, a0_1, a0_2, a0_3⟩ : Ball) (⟨a1_0, a1_1, a1_2⟩ : Mark) a2))))
  | _ => none
set_option maxRecDepth 100000 in
theorem impl_Ball_place_ok : FunOK Try.prog 96 impl_Ball_place_c.fn := by
  refine con_ok (Γ := gam [(123, impl_cos_c), (55, impl_Ball_face_c), (44, impl_SineTurns_c)]) (gam_cons impl_cos_ok (gam_cons impl_Ball_face_ok (gam_cons impl_SineTurns_ok (gam_nil)))) tab_ok (by kernel_rfl) Try.func96 (by kernel_rfl) (by kernel_rfl) Try.ntmps96 Try.results96 (loopsOK_none rfl _) 100000 fun args t h => ?_
  unfold impl_Ball_place_c at h
  split at h
  · rename_i a0_0 a0_1 a0_2 a0_3 a1_0 a1_1 a1_2 a2
    cases h
    exact ⟨rfl, agree_need (mk := impl_Ball_place_mk) (t := impl_Ball_place_tree (⟨a0_0, a0_1, a0_2, a0_3⟩ : Ball) (⟨a1_0, a1_1, a1_2⟩ : Mark) a2) (by unfold Agree; kernel_rfl)⟩
  · cases h

/-- loop.example/g01284/impl.LessVectors -/
def impl_LessVectors_tree (a0 : Vec) (a1 : Vec) : DT (Vec) :=
  let x0 := fsub .f32 a0.X a1.X;
  let x1 := fsub .f32 a0.Y a1.Y;
  let x2 := fsub .f32 a0.Z a1.Z;
  .leaf ((⟨x0, x1, x2⟩ : Vec))
def impl_LessVectors (a0 : Vec) (a1 : Vec) : Vec := (impl_LessVectors_tree a0 a1).val
def impl_LessVectors_mk (p : Vec) : Ret := ⟨.agg [.flt .f32 p.X, .flt .f32 p.Y, .flt .f32 p.Z], []⟩
def impl_LessVectors_c : Con := fun args => match args with
  | [.agg [.flt .f32 a0_0, .flt .f32 a0_1, .flt .f32 a0_2], .agg [.flt .f32 a1_0, .flt .f32 a1_1, .flt .f32 a1_2]] => some (.leaf (impl_LessVectors_mk (impl_LessVectors (⟨a0_0, a0_1, a0_2⟩ : Vec) (⟨a1_0, a1_1, a1_2⟩ : Vec))))
  | _ => none
set_option maxRecDepth 100000 in
theorem impl_LessVectors_ok : FunOK Try.prog 61 impl_LessVectors_c.fn := by
  refine con_ok (Γ := gam []) (gam_nil) tab_ok (by kernel_rfl) Try.func61 (by kernel_rfl) (by kernel_rfl) Try.ntmps61 Try.results61 (loopsOK_none rfl _) 100000 fun args t h => ?_
  unfold impl_LessVectors_c at h
  split at h
  · rename_i a0_0 a0_1 a0_2 a1_0 a1_1 a1_2
    cases h
    exact ⟨rfl, agree_tot (mk := impl_LessVectors_mk) (t := impl_LessVectors_tree (⟨a0_0, a0_1, a0_2⟩ : Vec) (⟨a1_0, a1_1, a1_2⟩ : Vec)) (by unfold Agree; kernel_rfl) (by kernel_rfl)⟩
  · cases h

/-- (loop.example/g01284/impl.Ball).rise -/
def impl_Ball_rise_tree (a0 : Ball) (a1 : Mark) (a2 : Vec) (a3 : Nat) : DT (Nat) :=
  .need ((impl_Ball_place_need (⟨a0.Mass, a0.Radius, a0.Spin, a0.Start⟩ : Ball) (⟨a1.North, a1.East, a1.High⟩ : Mark) a3)) (
  let x0 := impl_Ball_place (⟨a0.Mass, a0.Radius, a0.Spin, a0.Start⟩ : Ball) (⟨a1.North, a1.East, a1.High⟩ : Mark) a3;
  let x1 := impl_LessVectors (⟨a2.X, a2.Y, a2.Z⟩ : Vec) (⟨x0.X, x0.Y, x0.Z⟩ : Vec);
  let x2 := impl_InnerOf (⟨x0.X, x0.Y, x0.Z⟩ : Vec) (⟨x1.X, x1.Y, x1.Z⟩ : Vec);
  .need ((impl_SizeOfVector_need (⟨x0.X, x0.Y, x0.Z⟩ : Vec))) (
  let x3 := impl_SizeOfVector (⟨x0.X, x0.Y, x0.Z⟩ : Vec);
  .need ((impl_SizeOfVector_need (⟨x1.X, x1.Y, x1.Z⟩ : Vec))) (
  let x4 := impl_SizeOfVector (⟨x1.X, x1.Y, x1.Z⟩ : Vec);
  let x5 := fmul .f32 x3 x4;
  let x6 := fdiv .f32 x2 x5;
  .leaf x6)))
def impl_Ball_rise (a0 : Ball) (a1 : Mark) (a2 : Vec) (a3 : Nat) : Nat := (impl_Ball_rise_tree a0 a1 a2 a3).val
def impl_Ball_rise_need (a0 : Ball) (a1 : Mark) (a2 : Vec) (a3 : Nat) : Bool := (impl_Ball_rise_tree a0 a1 a2 a3).ok
def impl_Ball_rise_mk (p : Nat) : Ret := ⟨.flt .f32 p, []⟩
def impl_Ball_rise_c : Con := fun args => match args with
  | [.agg [.flt .f32 a0_0, .flt .f32 a0_1, .flt .f32 a0_2, .flt .f32 a0_3], .agg [.flt .f32 a1_0, .flt .f32 a1_1, .flt .f32 a1_2], .agg [.flt .f32 a2_0, .flt .f32 a2_1, .flt .f32 a2_2], .flt .f32 a3] => some (.need (impl_Ball_rise_need (⟨a0_0, a0_1, a0_2, a0_3⟩ : Ball) (⟨a1_0, a1_1, a1_2⟩ : Mark) (⟨a2_0, a2_1, a2_2⟩ : Vec) a3) (.leaf (impl_Ball_rise_mk (impl_Ball_rise (⟨a0_0, a0_1, a0_2, a0_3⟩ : Ball) (⟨a1_0, a1_1, a1_2⟩ : Mark) (⟨a2_0, a2_1, a2_2⟩ : Vec) a3))))
  | _ => none
set_option maxRecDepth 100000 in
theorem impl_Ball_rise_ok : FunOK Try.prog 59 impl_Ball_rise_c.fn := by
  refine con_ok (Γ := gam [(96, impl_Ball_place_c), (61, impl_LessVectors_c), (60, impl_InnerOf_c), (29, impl_SizeOfVector_c)]) (gam_cons impl_Ball_place_ok (gam_cons impl_LessVectors_ok (gam_cons impl_InnerOf_ok (gam_cons impl_SizeOfVector_ok (gam_nil))))) tab_ok (by kernel_rfl) Try.func59 (by kernel_rfl) (by kernel_rfl) Try.ntmps59 Try.results59 (loopsOK_none rfl _) 100000 fun args t h => ?_
  unfold impl_Ball_rise_c at h
  split at h
  · rename_i a0_0 a0_1 a0_2 a0_3 a1_0 a1_1 a1_2 a2_0 a2_1 a2_2 a3
    cases h
    exact ⟨rfl, agree_need (mk := impl_Ball_rise_mk) (t := impl_Ball_rise_tree (⟨a0_0, a0_1, a0_2, a0_3⟩ : Ball) (⟨a1_0, a1_1, a1_2⟩ : Mark) (⟨a2_0, a2_1, a2_2⟩ : Vec) a3) (by unfold Agree; kernel_rfl)⟩
  · cases h

/-- loop.example/g01284/impl.told -/
def impl_told_tree (a0 : Nat) : DT (Nat × Bool) :=
  .need ((impl_IsFinite_need a0)) (
  let x0 := impl_IsFinite a0;
  .ask (!x0)
  (
   .leaf (0, false))
  (
   .leaf (a0, true)))
def impl_told (a0 : Nat) : Nat × Bool := (impl_told_tree a0).val
def impl_told_need (a0 : Nat) : Bool := (impl_told_tree a0).ok
def impl_told_mk (p : Nat × Bool) : Ret := ⟨.tup [.flt .f32 p.1, .bool p.2], []⟩
def impl_told_c : Con := fun args => match args with
  | [.flt .f32 a0] => some (.need (impl_told_need a0) (.leaf (impl_told_mk (impl_told a0))))
  | _ => none
set_option maxRecDepth 100000 in
theorem impl_told_ok : FunOK Try.prog 58 impl_told_c.fn := by
  refine con_ok (Γ := gam [(43, impl_IsFinite_c)]) (gam_cons impl_IsFinite_ok (gam_nil)) tab_ok (by kernel_rfl) Try.func58 (by kernel_rfl) (by kernel_rfl) Try.ntmps58 Try.results58 (loopsOK_none rfl _) 100000 fun args t h => ?_
  unfold impl_told_c at h
  split at h
  · rename_i a0
    cases h
    exact ⟨rfl, agree_need (mk := impl_told_mk) (t := impl_told_tree a0) (by unfold Agree; kernel_rfl)⟩
  · cases h

/-- loop.example/g01284/impl.RiseAt -/
def impl_RiseAt_tree (a0 : Ball) (a1 : Mark) (a2 : Vec) (a3 : Nat) : DT (Nat × Bool) :=
  .need ((impl_ValidBall_need (⟨a0.Mass, a0.Radius, a0.Spin, a0.Start⟩ : Ball))) (
  let x0 := impl_ValidBall (⟨a0.Mass, a0.Radius, a0.Spin, a0.Start⟩ : Ball);
  .ask (!x0)
  (
   .leaf (0, false))
  (
   .need ((impl_ValidMark_need (⟨a1.North, a1.East, a1.High⟩ : Mark))) (
   let x1 := impl_ValidMark (⟨a1.North, a1.East, a1.High⟩ : Mark);
   .ask (!x1)
   (
    .leaf (0, false))
   (
    .need ((impl_isFiniteVector_need (⟨a2.X, a2.Y, a2.Z⟩ : Vec))) (
    let x2 := impl_isFiniteVector (⟨a2.X, a2.Y, a2.Z⟩ : Vec);
    .ask (!x2)
    (
     .leaf (0, false))
    (
     .need ((impl_IsFinite_need a3)) (
     let x3 := impl_IsFinite a3;
     .ask (!x3)
     (
      .leaf (0, false))
     (
      .need ((impl_Ball_rise_need (⟨a0.Mass, a0.Radius, a0.Spin, a0.Start⟩ : Ball) (⟨a1.North, a1.East, a1.High⟩ : Mark) (⟨a2.X, a2.Y, a2.Z⟩ : Vec) a3)) (
      let x4 := impl_Ball_rise (⟨a0.Mass, a0.Radius, a0.Spin, a0.Start⟩ : Ball) (⟨a1.North, a1.East, a1.High⟩ : Mark) (⟨a2.X, a2.Y, a2.Z⟩ : Vec) a3;
      .need ((impl_told_need x4)) (
      let x5 := impl_told x4;
      .leaf (x5.1, x5.2)))))))))))
def impl_RiseAt (a0 : Ball) (a1 : Mark) (a2 : Vec) (a3 : Nat) : Nat × Bool := (impl_RiseAt_tree a0 a1 a2 a3).val
def impl_RiseAt_need (a0 : Ball) (a1 : Mark) (a2 : Vec) (a3 : Nat) : Bool := (impl_RiseAt_tree a0 a1 a2 a3).ok
def impl_RiseAt_mk (p : Nat × Bool) : Ret := ⟨.tup [.flt .f32 p.1, .bool p.2], []⟩
def impl_RiseAt_c : Con := fun args => match args with
  | [.agg [.flt .f32 a0_0, .flt .f32 a0_1, .flt .f32 a0_2, .flt .f32 a0_3], .agg [.flt .f32 a1_0, .flt .f32 a1_1, .flt .f32 a1_2], .agg [.flt .f32 a2_0, .flt .f32 a2_1, .flt .f32 a2_2], .flt .f32 a3] => some (.need (impl_RiseAt_need (⟨a0_0, a0_1, a0_2, a0_3⟩ : Ball) (⟨a1_0, a1_1, a1_2⟩ : Mark) (⟨a2_0, a2_1, a2_2⟩ : Vec) a3) (.leaf (impl_RiseAt_mk (impl_RiseAt (⟨a0_0, a0_1, a0_2, a0_3⟩ : Ball) (⟨a1_0, a1_1, a1_2⟩ : Mark) (⟨a2_0, a2_1, a2_2⟩ : Vec) a3))))
  | _ => none
set_option maxRecDepth 100000 in
theorem impl_RiseAt_ok : FunOK Try.prog 19 impl_RiseAt_c.fn := by
  refine con_ok (Γ := gam [(52, impl_ValidBall_c), (42, impl_ValidMark_c), (51, impl_isFiniteVector_c), (43, impl_IsFinite_c), (59, impl_Ball_rise_c), (58, impl_told_c)]) (gam_cons impl_ValidBall_ok (gam_cons impl_ValidMark_ok (gam_cons impl_isFiniteVector_ok (gam_cons impl_IsFinite_ok (gam_cons impl_Ball_rise_ok (gam_cons impl_told_ok (gam_nil))))))) tab_ok (by kernel_rfl) Try.func19 (by kernel_rfl) (by kernel_rfl) Try.ntmps19 Try.results19 (loopsOK_none rfl _) 100000 fun args t h => ?_
  unfold impl_RiseAt_c at h
  split at h
  · rename_i a0_0 a0_1 a0_2 a0_3 a1_0 a1_1 a1_2 a2_0 a2_1 a2_2 a3
    cases h
    exact ⟨rfl, agree_need (mk := impl_RiseAt_mk) (t := impl_RiseAt_tree (⟨a0_0, a0_1, a0_2, a0_3⟩ : Ball) (⟨a1_0, a1_1, a1_2⟩ : Mark) (⟨a2_0, a2_1, a2_2⟩ : Vec) a3) (by unfold Agree; kernel_rfl)⟩
  · cases h

/-- a loop of impl_SeenFrom -/
def impl_SeenFrom_loop0_step (p : Nat × Nat × Nat × Int × Nat × Nat × Nat × Nat × Nat × Nat × Nat × Nat × Nat × Nat × Nat × Nat × Nat) (s : Int × List Bool) : Round (Int × List Bool) ((Unit) ⊕ (List Bool)) :=
  let x0 := decide (s.1 < p.2.2.2.1);
  .ask x0
  (
   let x1 := fofInt .f32 s.1;
   let x2 := fmul .f32 x1 p.2.2.1;
   let x3 := fadd .f32 p.2.1 x2;
   .need ((impl_Ball_passed_need (⟨p.2.2.2.2.1, p.2.2.2.2.2.1, p.2.2.2.2.2.2.1, p.2.2.2.2.2.2.2.1⟩ : Ball) (⟨p.2.2.2.2.2.2.2.2.2.2.2.1, p.2.2.2.2.2.2.2.2.2.2.2.2.1, p.2.2.2.2.2.2.2.2.2.2.2.2.2.1, p.2.2.2.2.2.2.2.2.2.2.2.2.2.2.1, p.2.2.2.2.2.2.2.2.2.2.2.2.2.2.2.1, p.2.2.2.2.2.2.2.2.2.2.2.2.2.2.2.2⟩ : Orbit) x3)) (
   let x4 := impl_Ball_passed (⟨p.2.2.2.2.1, p.2.2.2.2.2.1, p.2.2.2.2.2.2.1, p.2.2.2.2.2.2.2.1⟩ : Ball) (⟨p.2.2.2.2.2.2.2.2.2.2.2.1, p.2.2.2.2.2.2.2.2.2.2.2.2.1, p.2.2.2.2.2.2.2.2.2.2.2.2.2.1, p.2.2.2.2.2.2.2.2.2.2.2.2.2.2.1, p.2.2.2.2.2.2.2.2.2.2.2.2.2.2.2.1, p.2.2.2.2.2.2.2.2.2.2.2.2.2.2.2.2⟩ : Orbit) x3;
   .need ((impl_RiseAt_need (⟨p.2.2.2.2.1, p.2.2.2.2.2.1, p.2.2.2.2.2.2.1, p.2.2.2.2.2.2.2.1⟩ : Ball) (⟨p.2.2.2.2.2.2.2.2.1, p.2.2.2.2.2.2.2.2.2.1, p.2.2.2.2.2.2.2.2.2.2.1⟩ : Mark) (⟨x4.1.X, x4.1.Y, x4.1.Z⟩ : Vec) x3)) (
   let x5 := impl_RiseAt (⟨p.2.2.2.2.1, p.2.2.2.2.2.1, p.2.2.2.2.2.2.1, p.2.2.2.2.2.2.2.1⟩ : Ball) (⟨p.2.2.2.2.2.2.2.2.1, p.2.2.2.2.2.2.2.2.2.1, p.2.2.2.2.2.2.2.2.2.2.1⟩ : Mark) (⟨x4.1.X, x4.1.Y, x4.1.Z⟩ : Vec) x3;
   .ask (!x4.2)
   (
    .leaf (.inr (.inl ()), []))
   (
    .ask (!x5.2)
    (
     .leaf (.inr (.inl ()), []))
    (
     .need ((impl_SineTurns_need p.1)) (
     let x6 := impl_SineTurns p.1;
     let x7 := fge .f32 x5.1 x6;
     .need ((decide ((List.length s.2 + List.length [x7]) * 1 ≤ 140737488355328) && decide (List.length s.2 + List.length [x7] ≤ 9223372036854775807))) (
     let x8 := s.2 ++ [x7];
     let x9 := IntKind.wrap .i64 (s.1 + 1);
     .leaf (.inl (x9, x8), [0, 1, 2, 340]))))))))
  (
   .leaf (.inr (.inr s.2), [3]))
def impl_SeenFrom_loop0_L (p : Nat × Nat × Nat × Int × Nat × Nat × Nat × Nat × Nat × Nat × Nat × Nat × Nat × Nat × Nat × Nat × Nat) : LoopS (Int × List Bool) ((Unit) ⊕ (List Bool)) := { tl := fun s => [.junk, .junk, .junk, .flt .f32 p.1, .flt .f32 p.2.1, .flt .f32 p.2.2.1, .junk, .ptr 0 0, .ptr 1 0, .ptr 2 0, .junk, .junk, .junk, .junk, .junk, .junk, .own 3, .junk, .junk, .junk, .junk, .junk, .junk, .junk, .junk, .junk, .junk, .junk, .junk, .junk, .junk, .junk, .junk, .junk, .junk, .junk, .junk, .junk, .junk, .junk, .junk, .int .i64 p.2.2.2.1, .int .i64 s.1], hl := fun s => [some (.cells [.flt .f32 p.2.2.2.2.1, .flt .f32 p.2.2.2.2.2.1, .flt .f32 p.2.2.2.2.2.2.1, .flt .f32 p.2.2.2.2.2.2.2.1]), some (.cells [.flt .f32 p.2.2.2.2.2.2.2.2.1, .flt .f32 p.2.2.2.2.2.2.2.2.2.1, .flt .f32 p.2.2.2.2.2.2.2.2.2.2.1]), some (.cells [.flt .f32 p.2.2.2.2.2.2.2.2.2.2.2.1, .flt .f32 p.2.2.2.2.2.2.2.2.2.2.2.2.1, .flt .f32 p.2.2.2.2.2.2.2.2.2.2.2.2.2.1, .flt .f32 p.2.2.2.2.2.2.2.2.2.2.2.2.2.2.1, .flt .f32 p.2.2.2.2.2.2.2.2.2.2.2.2.2.2.2.1, .flt .f32 p.2.2.2.2.2.2.2.2.2.2.2.2.2.2.2.2]), some (.typed 4 .bool s.2)], ex := fun r => match r with | .inl r => .ret | .inr r => .exit 0, otl := fun r => match r with | .inl r => [.junk, .junk, .junk, .junk, .junk, .junk, .junk, .junk, .junk, .junk, .junk, .junk, .junk, .junk, .nils, .bool false] | .inr r => [.junk, .junk, .junk, .junk, .junk, .junk, .junk, .junk, .junk, .junk, .junk, .junk, .junk, .junk, .junk, .junk, .own 0], ohl := fun r => match r with | .inl r => [] | .inr r => [some (.typed 4 .bool r)] }
def impl_SeenFrom_loop0_ext : St → Option ((Nat × Nat × Nat × Int × Nat × Nat × Nat × Nat × Nat × Nat × Nat × Nat × Nat × Nat × Nat × Nat × Nat) × (Int × List Bool) × List Nat) := fun S => match (S.tm 3).unK, (S.tm 4).unK, (S.tm 5).unK, (S.tm 7).unK, (S.tm 8).unK, (S.tm 9).unK, (S.tm 16).unK, (S.tm 41).unK, (S.tm 42).unK with
  | .flt .f32 q0, .flt .f32 q1, .flt .f32 q2, .ptr i0 0, .ptr i1 0, .ptr i2 0, .own i3, .int .i64 q3, .int .i64 q4 => (match S.hp i0 with
    | some (.cells [.flt .f32 q5, .flt .f32 q6, .flt .f32 q7, .flt .f32 q8]) => (match S.hp i1 with
    | some (.cells [.flt .f32 q9, .flt .f32 q10, .flt .f32 q11]) => (match S.hp i2 with
    | some (.cells [.flt .f32 q12, .flt .f32 q13, .flt .f32 q14, .flt .f32 q15, .flt .f32 q16, .flt .f32 q17]) => (match S.hp i3 with
    | some (.typed 4 .bool q18) => (if nodup [i0, i1, i2, i3] = true then some ((q0, q1, q2, q3, q5, q6, q7, q8, q9, q10, q11, q12, q13, q14, q15, q16, q17), (q4, q18), [i0, i1, i2, i3]) else none)
    | _ => none)
    | _ => none)
    | _ => none)
    | _ => none)
  | _, _, _, _, _, _, _, _, _ => none
def impl_SeenFrom_loop0_post (p : Nat × Nat × Nat × Int × Nat × Nat × Nat × Nat × Nat × Nat × Nat × Nat × Nat × Nat × Nat × Nat × Nat) (r : (Unit) ⊕ (List Bool)) : DT (Ex × St) := .ask (isL r) (.leaf (.ret, LSt [.junk, .junk, .junk, .junk, .junk, .junk, .junk, .junk, .junk, .junk, .junk, .junk, .junk, .junk, .nils, .bool false] [])) (.leaf (.exit 0, LSt [.junk, .junk, .junk, .junk, .junk, .junk, .junk, .junk, .junk, .junk, .junk, .junk, .junk, .junk, .junk, .junk, .own 0] [some (.typed 4 .bool ((rightD r)))]))
def impl_SeenFrom_loop0 (p : Nat × Nat × Nat × Int × Nat × Nat × Nat × Nat × Nat × Nat × Nat × Nat × Nat × Nat × Nat × Nat × Nat) (s : Int × List Bool) : (Unit) ⊕ (List Bool) := loopVal (impl_SeenFrom_loop0_step p) s
def impl_SeenFrom_loop0_ends (p : Nat × Nat × Nat × Int × Nat × Nat × Nat × Nat × Nat × Nat × Nat × Nat × Nat × Nat × Nat × Nat × Nat) (s : Int × List Bool) : Bool := loopEnds (impl_SeenFrom_loop0_step p) s
def impl_SeenFrom_loop0_F : LoopF := loopF impl_SeenFrom_loop0_step impl_SeenFrom_loop0_ext impl_SeenFrom_loop0_post
set_option maxRecDepth 100000 in
theorem impl_SeenFrom_loop0_hext : ∀ S p s fl, impl_SeenFrom_loop0_ext S = some (p, s, fl) → Norm S fl ((impl_SeenFrom_loop0_L p).tl s) ((impl_SeenFrom_loop0_L p).hl s) (impl_SeenFrom_loop0_L p).gl := by
  intro S p s fl h
  unfold impl_SeenFrom_loop0_ext at h
  (repeat' split at h) <;> first
    | (cases h; constructor <;> simp_all [impl_SeenFrom_loop0_L, keepT, keepH, rens, renH, PV.ren, Blk.ren, fOf, lget, nodup, natIn, lenEq, gtm, PV.unK])
    | cases h
set_option maxRecDepth 100000 in
theorem impl_SeenFrom_loop0_hpost : ∀ p r e S', (impl_SeenFrom_loop0_post p r).get = some (e, S') → e = (impl_SeenFrom_loop0_L p).ex r ∧ S' = LSt ((impl_SeenFrom_loop0_L p).otl r) ((impl_SeenFrom_loop0_L p).ohl r) ((impl_SeenFrom_loop0_L p).ogl r) := by
  intro p r e S' h
  unfold impl_SeenFrom_loop0_post at h
  cases r <;> (simp only [isL, DT.get, Option.some.injEq, Prod.mk.injEq] at h; exact ⟨h.1.symm, h.2.symm⟩)

def impl_SeenFrom_loops : Nat → Option LoopF := loopTab [(5, impl_SeenFrom_loop0_F)]
set_option maxRecDepth 100000 in
theorem impl_SeenFrom_l0 : LoopOK Try.prog ⟨gam [(40, impl_isTrack_c), (42, impl_ValidMark_c), (43, impl_IsFinite_c), (41, impl_Ball_passed_c), (19, impl_RiseAt_c), (44, impl_SineTurns_c)], tab, 81, impl_SeenFrom_loops⟩ (lp Try.f13 0) :=
  loopOK_some (F := impl_SeenFrom_loop0_F) (by kernel_rfl) (loopF_ok (E := ⟨gam [(40, impl_isTrack_c), (42, impl_ValidMark_c), (43, impl_IsFinite_c), (41, impl_Ball_passed_c), (19, impl_RiseAt_c), (44, impl_SineTurns_c)], tab, 81, impl_SeenFrom_loops⟩) ⟨gam_cons impl_isTrack_ok (gam_cons impl_ValidMark_ok (gam_cons impl_IsFinite_ok (gam_cons impl_Ball_passed_ok (gam_cons impl_RiseAt_ok (gam_cons impl_SineTurns_ok (gam_nil)))))), tab_ok, by kernel_rfl⟩ (fuel := 100000) (loopsOK_list (l := []) (by kernel_rfl) trivial) (L := impl_SeenFrom_loop0_L) (fun p s => by unfold AgreeL; exact ⟨by kernel_rfl, by kernel_rfl⟩) (fun _ r h => by cases r <;> exact Ex.noConfusion h) impl_SeenFrom_loop0_hext impl_SeenFrom_loop0_hpost)
/-- loop.example/g01284/impl.SeenFrom -/
def impl_SeenFrom_tree (a0 : Ball) (a1 : Mark) (a2 : Orbit) (a3 : Nat) (a4 : Nat) (a5 : Nat) (a6 : Int) : DT ((Unit) ⊕ (List Bool)) :=
  .need ((impl_isTrack_need (⟨a0.Mass, a0.Radius, a0.Spin, a0.Start⟩ : Ball) (⟨a2.Long, a2.Round, a2.Tilt, a2.Node, a2.Peri, a2.Phase⟩ : Orbit) a4 a5 a6)) (
  let x0 := impl_isTrack (⟨a0.Mass, a0.Radius, a0.Spin, a0.Start⟩ : Ball) (⟨a2.Long, a2.Round, a2.Tilt, a2.Node, a2.Peri, a2.Phase⟩ : Orbit) a4 a5 a6;
  .ask (!x0)
  (
   .leaf (.inl ()))
  (
   .need ((impl_ValidMark_need (⟨a1.North, a1.East, a1.High⟩ : Mark))) (
   let x1 := impl_ValidMark (⟨a1.North, a1.East, a1.High⟩ : Mark);
   .ask (!x1)
   (
    .leaf (.inl ()))
   (
    .need ((impl_IsFinite_need a3)) (
    let x2 := impl_IsFinite a3;
    .ask (!x2)
    (
     .leaf (.inl ()))
    (
     .need ((impl_SeenFrom_loop0_ends (a3, a4, a5, a6, a0.Mass, a0.Radius, a0.Spin, a0.Start, a1.North, a1.East, a1.High, a2.Long, a2.Round, a2.Tilt, a2.Node, a2.Peri, a2.Phase) (0, []))) (
     let x3 := impl_SeenFrom_loop0 (a3, a4, a5, a6, a0.Mass, a0.Radius, a0.Spin, a0.Start, a1.North, a1.East, a1.High, a2.Long, a2.Round, a2.Tilt, a2.Node, a2.Peri, a2.Phase) (0, []);
     .ask ((isL x3))
     (
      .leaf (.inl ()))
     (
      .leaf (.inr ((rightD x3)))))))))))
def impl_SeenFrom (a0 : Ball) (a1 : Mark) (a2 : Orbit) (a3 : Nat) (a4 : Nat) (a5 : Nat) (a6 : Int) : (Unit) ⊕ (List Bool) := (impl_SeenFrom_tree a0 a1 a2 a3 a4 a5 a6).val
def impl_SeenFrom_need (a0 : Ball) (a1 : Mark) (a2 : Orbit) (a3 : Nat) (a4 : Nat) (a5 : Nat) (a6 : Int) : Bool := (impl_SeenFrom_tree a0 a1 a2 a3 a4 a5 a6).ok
def impl_SeenFrom_mk0 (p : Unit) : Ret := ⟨.tup [.nils, .bool false], []⟩
def impl_SeenFrom_mk1 (p : List Bool) : Ret := ⟨.tup [.own 0, .bool true], [.typed 4 .bool p]⟩
def impl_SeenFrom_mk : (Unit) ⊕ (List Bool) → Ret := fun v => match v with
  | (.inl p) => impl_SeenFrom_mk0 p
  | (.inr p) => impl_SeenFrom_mk1 p
def impl_SeenFrom_forms (v : (Unit) ⊕ (List Bool)) : DT Ret := .ask (isL v) (.leaf (impl_SeenFrom_mk0 (leftD v))) (.leaf (impl_SeenFrom_mk1 (rightD v)))
theorem impl_SeenFrom_forms_get : ∀ v, (impl_SeenFrom_forms v).get = some (impl_SeenFrom_mk v) := by
  intro v
  rcases v with v | v <;> rfl
def impl_SeenFrom_c : Con := fun args => match args with
  | [.agg [.flt .f32 a0_0, .flt .f32 a0_1, .flt .f32 a0_2, .flt .f32 a0_3], .agg [.flt .f32 a1_0, .flt .f32 a1_1, .flt .f32 a1_2], .agg [.flt .f32 a2_0, .flt .f32 a2_1, .flt .f32 a2_2, .flt .f32 a2_3, .flt .f32 a2_4, .flt .f32 a2_5], .flt .f32 a3, .flt .f32 a4, .flt .f32 a5, .int .i64 a6] => some (.need (impl_SeenFrom_need (⟨a0_0, a0_1, a0_2, a0_3⟩ : Ball) (⟨a1_0, a1_1, a1_2⟩ : Mark) (⟨a2_0, a2_1, a2_2, a2_3, a2_4, a2_5⟩ : Orbit) a3 a4 a5 a6) (impl_SeenFrom_forms (impl_SeenFrom (⟨a0_0, a0_1, a0_2, a0_3⟩ : Ball) (⟨a1_0, a1_1, a1_2⟩ : Mark) (⟨a2_0, a2_1, a2_2, a2_3, a2_4, a2_5⟩ : Orbit) a3 a4 a5 a6)))
  | _ => none
set_option maxRecDepth 100000 in
theorem impl_SeenFrom_ok : FunOK Try.prog 13 impl_SeenFrom_c.fn := by
  refine con_ok (Γ := gam [(40, impl_isTrack_c), (42, impl_ValidMark_c), (43, impl_IsFinite_c), (41, impl_Ball_passed_c), (19, impl_RiseAt_c), (44, impl_SineTurns_c)]) (gam_cons impl_isTrack_ok (gam_cons impl_ValidMark_ok (gam_cons impl_IsFinite_ok (gam_cons impl_Ball_passed_ok (gam_cons impl_RiseAt_ok (gam_cons impl_SineTurns_ok (gam_nil))))))) tab_ok (by kernel_rfl) Try.func13 (by kernel_rfl) (by kernel_rfl) Try.ntmps13 Try.results13 (loops := impl_SeenFrom_loops) (loopsOK_list (l := [lp Try.f13 0]) (by kernel_rfl) ⟨impl_SeenFrom_l0, trivial⟩) 100000 fun args t h => ?_
  unfold impl_SeenFrom_c at h
  split at h
  · rename_i a0_0 a0_1 a0_2 a0_3 a1_0 a1_1 a1_2 a2_0 a2_1 a2_2 a2_3 a2_4 a2_5 a3 a4 a5 a6
    cases h
    exact ⟨rfl, agree_forms (mk := impl_SeenFrom_mk) (t := impl_SeenFrom_tree (⟨a0_0, a0_1, a0_2, a0_3⟩ : Ball) (⟨a1_0, a1_1, a1_2⟩ : Mark) (⟨a2_0, a2_1, a2_2, a2_3, a2_4, a2_5⟩ : Orbit) a3 a4 a5 a6) (by unfold Agree; kernel_rfl) (fun h => h) (impl_SeenFrom_forms_get _)⟩
  · cases h

/-- loop.example/g01284/impl.SameNumber -/
def impl_SameNumber_tree (a0 : Nat) (a1 : Nat) : DT (Bool) :=
  let x0 := fne .f32 a0 a0;
  .ask x0
  (
   let x1 := fne .f32 a0 a0;
   .ask x1
   (
    let x2 := fne .f32 a1 a1;
    .leaf x2)
   (
    .leaf false))
  (
   let x1 := fne .f32 a1 a1;
   .ask x1
   (
    let x2 := fne .f32 a0 a0;
    .ask x2
    (
     let x3 := fne .f32 a1 a1;
     .leaf x3)
    (
     .leaf false))
   (
    let x2 := feq .f32 a0 a1;
    .ask x2
    (
     .need ((fconvOk .f32 a0 .f64)) (
     let x3 := fconv .f32 a0 .f64;
     .need ((!isNaN .f64 x3)) (
     let x4 := decide (IntKind.wrap .i64 ((x3 : Nat) : Int) < 0);
     .need ((fconvOk .f32 a1 .f64)) (
     let x5 := fconv .f32 a1 .f64;
     .need ((!isNaN .f64 x5)) (
     let x6 := decide (IntKind.wrap .i64 ((x5 : Nat) : Int) < 0);
     let x7 := (x4 == x6);
     .leaf x7)))))
    (
     .leaf false)))
def impl_SameNumber (a0 : Nat) (a1 : Nat) : Bool := (impl_SameNumber_tree a0 a1).val
def impl_SameNumber_need (a0 : Nat) (a1 : Nat) : Bool := (impl_SameNumber_tree a0 a1).ok
def impl_SameNumber_mk (p : Bool) : Ret := ⟨.bool p, []⟩
def impl_SameNumber_c : Con := fun args => match args with
  | [.flt .f32 a0, .flt .f32 a1] => some (.need (impl_SameNumber_need a0 a1) (.leaf (impl_SameNumber_mk (impl_SameNumber a0 a1))))
  | _ => none
set_option maxRecDepth 100000 in
theorem impl_SameNumber_ok : FunOK Try.prog 78 impl_SameNumber_c.fn := by
  refine con_ok (Γ := gam [(106, math_Signbit_c)]) (gam_cons math_Signbit_ok (gam_nil)) tab_ok (by kernel_rfl) Try.func78 (by kernel_rfl) (by kernel_rfl) Try.ntmps78 Try.results78 (loopsOK_none rfl _) 100000 fun args t h => ?_
  unfold impl_SameNumber_c at h
  split at h
  · rename_i a0 a1
    cases h
    exact ⟨rfl, agree_need (mk := impl_SameNumber_mk) (t := impl_SameNumber_tree a0 a1) (by unfold Agree; kernel_rfl)⟩
  · cases h

/-- a loop of slices_EqualFunc___float32___float32_float32_float32__impl_SameNumber -/
def slices_EqualFunc___float32___float32_float32_float32__impl_SameNumber_loop0_step (p : List Nat × List Nat × Int) (s : Int) : Round (Int) ((Unit) ⊕ (Unit)) :=
  let x0 := decide (s < p.2.2);
  .ask x0
  (
   .need ((decide (0 ≤ s) && decide (s < ((List.length p.2.1 : Nat) : Int)))) (
   let x1 := List.getD p.2.1 (Int.toNat s) default;
   .need ((decide (0 ≤ s) && decide (s < ((List.length p.1 : Nat) : Int)))) (
   let x2 := List.getD p.1 (Int.toNat s) default;
   .need ((impl_SameNumber_need x1 x2)) (
   let x3 := impl_SameNumber x1 x2;
   .ask (!x3)
   (
    .leaf (.inr (.inl ()), []))
   (
    let x4 := IntKind.wrap .i64 (s + 1);
    .leaf (.inl x4, []))))))
  (
   .leaf (.inr (.inr ()), []))
def slices_EqualFunc___float32___float32_float32_float32__impl_SameNumber_loop0_L (p : List Nat × List Nat × Int) : LoopS (Int) ((Unit) ⊕ (Unit)) := { tl := fun s => [.junk, .vslc 2 (.flt .f32) p.1, .func (.func 78) [] [], .junk, .junk, .junk, .junk, .junk, .junk, .junk, .junk, .junk, .junk, .junk, .junk, .vslc 1 (.flt .f32) p.2.1, .int .i64 p.2.2, .int .i64 s], hl := fun s => [], ex := fun r => match r with | .inl r => .ret | .inr r => .exit 0, otl := fun r => match r with | .inl r => [.junk, .junk, .junk, .junk, .junk, .junk, .bool false] | .inr r => [.junk], ohl := fun r => match r with | .inl r => [] | .inr r => [] }
def slices_EqualFunc___float32___float32_float32_float32__impl_SameNumber_loop0_ext : St → Option ((List Nat × List Nat × Int) × (Int) × List Nat) := fun S => match (S.tm 1).unK, (S.tm 2).unK, (S.tm 15).unK, (S.tm 16).unK, (S.tm 17).unK with
  | .vslc 2 (.flt .f32) q0, .func (.func 78) [] [], .vslc 1 (.flt .f32) q1, .int .i64 q2, .int .i64 q3 => some ((q0, q1, q2), q3, [])
  | _, _, _, _, _ => none
def slices_EqualFunc___float32___float32_float32_float32__impl_SameNumber_loop0_post (p : List Nat × List Nat × Int) (r : (Unit) ⊕ (Unit)) : DT (Ex × St) := .ask (isL r) (.leaf (.ret, LSt [.junk, .junk, .junk, .junk, .junk, .junk, .bool false] [])) (.leaf (.exit 0, LSt [.junk] []))
def slices_EqualFunc___float32___float32_float32_float32__impl_SameNumber_loop0 (p : List Nat × List Nat × Int) (s : Int) : (Unit) ⊕ (Unit) := loopVal (slices_EqualFunc___float32___float32_float32_float32__impl_SameNumber_loop0_step p) s
def slices_EqualFunc___float32___float32_float32_float32__impl_SameNumber_loop0_ends (p : List Nat × List Nat × Int) (s : Int) : Bool := loopEnds (slices_EqualFunc___float32___float32_float32_float32__impl_SameNumber_loop0_step p) s
def slices_EqualFunc___float32___float32_float32_float32__impl_SameNumber_loop0_F : LoopF := loopF slices_EqualFunc___float32___float32_float32_float32__impl_SameNumber_loop0_step slices_EqualFunc___float32___float32_float32_float32__impl_SameNumber_loop0_ext slices_EqualFunc___float32___float32_float32_float32__impl_SameNumber_loop0_post
set_option maxRecDepth 100000 in
theorem slices_EqualFunc___float32___float32_float32_float32__impl_SameNumber_loop0_hext : ∀ S p s fl, slices_EqualFunc___float32___float32_float32_float32__impl_SameNumber_loop0_ext S = some (p, s, fl) → Norm S fl ((slices_EqualFunc___float32___float32_float32_float32__impl_SameNumber_loop0_L p).tl s) ((slices_EqualFunc___float32___float32_float32_float32__impl_SameNumber_loop0_L p).hl s) (slices_EqualFunc___float32___float32_float32_float32__impl_SameNumber_loop0_L p).gl := by
  intro S p s fl h
  unfold slices_EqualFunc___float32___float32_float32_float32__impl_SameNumber_loop0_ext at h
  (repeat' split at h) <;> first
    | (cases h; constructor <;> simp_all [slices_EqualFunc___float32___float32_float32_float32__impl_SameNumber_loop0_L, keepT, keepH, rens, renH, PV.ren, Blk.ren, fOf, lget, nodup, natIn, lenEq, gtm, PV.unK])
    | cases h
set_option maxRecDepth 100000 in
theorem slices_EqualFunc___float32___float32_float32_float32__impl_SameNumber_loop0_hpost : ∀ p r e S', (slices_EqualFunc___float32___float32_float32_float32__impl_SameNumber_loop0_post p r).get = some (e, S') → e = (slices_EqualFunc___float32___float32_float32_float32__impl_SameNumber_loop0_L p).ex r ∧ S' = LSt ((slices_EqualFunc___float32___float32_float32_float32__impl_SameNumber_loop0_L p).otl r) ((slices_EqualFunc___float32___float32_float32_float32__impl_SameNumber_loop0_L p).ohl r) ((slices_EqualFunc___float32___float32_float32_float32__impl_SameNumber_loop0_L p).ogl r) := by
  intro p r e S' h
  unfold slices_EqualFunc___float32___float32_float32_float32__impl_SameNumber_loop0_post at h
  cases r <;> (simp only [isL, DT.get, Option.some.injEq, Prod.mk.injEq] at h; exact ⟨h.1.symm, h.2.symm⟩)

def slices_EqualFunc___float32___float32_float32_float32__impl_SameNumber_loops : Nat → Option LoopF := loopTab [(4, slices_EqualFunc___float32___float32_float32_float32__impl_SameNumber_loop0_F)]
set_option maxRecDepth 100000 in
theorem slices_EqualFunc___float32___float32_float32_float32__impl_SameNumber_l0 : LoopOK Try.prog ⟨gam [(78, impl_SameNumber_c)], tab, 32, slices_EqualFunc___float32___float32_float32_float32__impl_SameNumber_loops⟩ (lp Try.f95 0) :=
  loopOK_some (F := slices_EqualFunc___float32___float32_float32_float32__impl_SameNumber_loop0_F) (by kernel_rfl) (loopF_ok (E := ⟨gam [(78, impl_SameNumber_c)], tab, 32, slices_EqualFunc___float32___float32_float32_float32__impl_SameNumber_loops⟩) ⟨gam_cons impl_SameNumber_ok (gam_nil), tab_ok, by kernel_rfl⟩ (fuel := 100000) (loopsOK_list (l := []) (by kernel_rfl) trivial) (L := slices_EqualFunc___float32___float32_float32_float32__impl_SameNumber_loop0_L) (fun p s => by unfold AgreeL; exact ⟨by kernel_rfl, by kernel_rfl⟩) (fun _ r h => by cases r <;> exact Ex.noConfusion h) slices_EqualFunc___float32___float32_float32_float32__impl_SameNumber_loop0_hext slices_EqualFunc___float32___float32_float32_float32__impl_SameNumber_loop0_hpost)
/-- slices.EqualFunc[[]float32,[]float32,float32,float32] -/
def slices_EqualFunc___float32___float32_float32_float32__impl_SameNumber_tree (a0 : List Nat) (a1 : List Nat) : DT (Bool) :=
  let x0 := ((List.length a0 : Nat) : Int);
  let x1 := ((List.length a1 : Nat) : Int);
  let x2 := (x0 != x1);
  .ask x2
  (
   .leaf false)
  (
   let x3 := ((List.length a0 : Nat) : Int);
   .need ((slices_EqualFunc___float32___float32_float32_float32__impl_SameNumber_loop0_ends (a1, a0, x3) 0)) (
   let x4 := slices_EqualFunc___float32___float32_float32_float32__impl_SameNumber_loop0 (a1, a0, x3) 0;
   .ask ((isL x4))
   (
    .leaf false)
   (
    .leaf true)))
def slices_EqualFunc___float32___float32_float32_float32__impl_SameNumber (a0 : List Nat) (a1 : List Nat) : Bool := (slices_EqualFunc___float32___float32_float32_float32__impl_SameNumber_tree a0 a1).val
def slices_EqualFunc___float32___float32_float32_float32__impl_SameNumber_need (a0 : List Nat) (a1 : List Nat) : Bool := (slices_EqualFunc___float32___float32_float32_float32__impl_SameNumber_tree a0 a1).ok
def slices_EqualFunc___float32___float32_float32_float32__impl_SameNumber_mk (p : Bool) : Ret := ⟨.bool p, []⟩
def slices_EqualFunc___float32___float32_float32_float32__impl_SameNumber_c0 : Con := fun args => match args with
  | [.vslc 1 (.flt .f32) a0, .vslc 2 (.flt .f32) a1, .func (.func 78) [] []] => some (.need (slices_EqualFunc___float32___float32_float32_float32__impl_SameNumber_need a0 a1) (.leaf (slices_EqualFunc___float32___float32_float32_float32__impl_SameNumber_mk (slices_EqualFunc___float32___float32_float32_float32__impl_SameNumber a0 a1))))
  | _ => none
set_option maxRecDepth 100000 in
theorem slices_EqualFunc___float32___float32_float32_float32__impl_SameNumber_ok0 : FunOK Try.prog 95 slices_EqualFunc___float32___float32_float32_float32__impl_SameNumber_c0.fn := by
  refine con_ok (Γ := gam [(78, impl_SameNumber_c)]) (gam_cons impl_SameNumber_ok (gam_nil)) tab_ok (by kernel_rfl) Try.func95 (by kernel_rfl) (by kernel_rfl) Try.ntmps95 Try.results95 (loops := slices_EqualFunc___float32___float32_float32_float32__impl_SameNumber_loops) (loopsOK_list (l := [lp Try.f95 0]) (by kernel_rfl) ⟨slices_EqualFunc___float32___float32_float32_float32__impl_SameNumber_l0, trivial⟩) 100000 fun args t h => ?_
  unfold slices_EqualFunc___float32___float32_float32_float32__impl_SameNumber_c0 at h
  split at h
  · rename_i a0 a1
    cases h
    exact ⟨rfl, agree_need (mk := slices_EqualFunc___float32___float32_float32_float32__impl_SameNumber_mk) (t := slices_EqualFunc___float32___float32_float32_float32__impl_SameNumber_tree a0 a1) (by unfold Agree; kernel_rfl)⟩
  · cases h
def slices_EqualFunc___float32___float32_float32_float32__impl_SameNumber_c : Con := fun args => slices_EqualFunc___float32___float32_float32_float32__impl_SameNumber_c0 (norms 0 [.slc (.flt .f32), .slc (.flt .f32), .none] args)
set_option maxRecDepth 100000 in
theorem slices_EqualFunc___float32___float32_float32_float32__impl_SameNumber_ok : FunOK Try.prog 95 slices_EqualFunc___float32___float32_float32_float32__impl_SameNumber_c.fn := con_norm [.slc (.flt .f32), .slc (.flt .f32), .none] slices_EqualFunc___float32___float32_float32_float32__impl_SameNumber_ok0

/-- loop.example/g01284/impl.sameNumbers -/
def impl_sameNumbers_tree (a0 : List Nat) (a1 : List Nat) : DT (Bool) :=
  .need ((slices_EqualFunc___float32___float32_float32_float32__impl_SameNumber_need a0 a1 )) (
  let x0 := slices_EqualFunc___float32___float32_float32_float32__impl_SameNumber a0 a1 ;
  .leaf x0)
def impl_sameNumbers (a0 : List Nat) (a1 : List Nat) : Bool := (impl_sameNumbers_tree a0 a1).val
def impl_sameNumbers_need (a0 : List Nat) (a1 : List Nat) : Bool := (impl_sameNumbers_tree a0 a1).ok
def impl_sameNumbers_mk (p : Bool) : Ret := ⟨.bool p, []⟩
def impl_sameNumbers_c0 : Con := fun args => match args with
  | [.vslc 1 (.flt .f32) a0, .vslc 2 (.flt .f32) a1] => some (.need (impl_sameNumbers_need a0 a1) (.leaf (impl_sameNumbers_mk (impl_sameNumbers a0 a1))))
  | _ => none
set_option maxRecDepth 100000 in
theorem impl_sameNumbers_ok0 : FunOK Try.prog 57 impl_sameNumbers_c0.fn := by
  refine con_ok (Γ := gam [(95, slices_EqualFunc___float32___float32_float32_float32__impl_SameNumber_c)]) (gam_cons slices_EqualFunc___float32___float32_float32_float32__impl_SameNumber_ok (gam_nil)) tab_ok (by kernel_rfl) Try.func57 (by kernel_rfl) (by kernel_rfl) Try.ntmps57 Try.results57 (loopsOK_none rfl _) 100000 fun args t h => ?_
  unfold impl_sameNumbers_c0 at h
  split at h
  · rename_i a0 a1
    cases h
    exact ⟨rfl, agree_need (mk := impl_sameNumbers_mk) (t := impl_sameNumbers_tree a0 a1) (by unfold Agree; kernel_rfl)⟩
  · cases h
def impl_sameNumbers_c : Con := fun args => impl_sameNumbers_c0 (norms 0 [.slc (.flt .f32), .slc (.flt .f32)] args)
set_option maxRecDepth 100000 in
theorem impl_sameNumbers_ok : FunOK Try.prog 57 impl_sameNumbers_c.fn := con_norm [.slc (.flt .f32), .slc (.flt .f32)] impl_sameNumbers_ok0

/-- loop.example/g01284/impl.SameMark -/
def impl_SameMark_tree (a0 : Mark) (a1 : Mark) : DT (Bool) :=
  .need ((impl_sameNumbers_need ([a0.North, a0.East, a0.High]) ([a1.North, a1.East, a1.High]))) (
  let x0 := impl_sameNumbers ([a0.North, a0.East, a0.High]) ([a1.North, a1.East, a1.High]);
  .leaf x0)
def impl_SameMark (a0 : Mark) (a1 : Mark) : Bool := (impl_SameMark_tree a0 a1).val
def impl_SameMark_need (a0 : Mark) (a1 : Mark) : Bool := (impl_SameMark_tree a0 a1).ok
def impl_SameMark_mk (p : Bool) : Ret := ⟨.bool p, []⟩
def impl_SameMark_c : Con := fun args => match args with
  | [.agg [.flt .f32 a0_0, .flt .f32 a0_1, .flt .f32 a0_2], .agg [.flt .f32 a1_0, .flt .f32 a1_1, .flt .f32 a1_2]] => some (.need (impl_SameMark_need (⟨a0_0, a0_1, a0_2⟩ : Mark) (⟨a1_0, a1_1, a1_2⟩ : Mark)) (.leaf (impl_SameMark_mk (impl_SameMark (⟨a0_0, a0_1, a0_2⟩ : Mark) (⟨a1_0, a1_1, a1_2⟩ : Mark)))))
  | _ => none
set_option maxRecDepth 100000 in
theorem impl_SameMark_ok : FunOK Try.prog 18 impl_SameMark_c.fn := by
  refine con_ok (Γ := gam [(57, impl_sameNumbers_c)]) (gam_cons impl_sameNumbers_ok (gam_nil)) tab_ok (by kernel_rfl) Try.func18 (by kernel_rfl) (by kernel_rfl) Try.ntmps18 Try.results18 (loopsOK_none rfl _) 100000 fun args t h => ?_
  unfold impl_SameMark_c at h
  split at h
  · rename_i a0_0 a0_1 a0_2 a1_0 a1_1 a1_2
    cases h
    exact ⟨rfl, agree_need (mk := impl_SameMark_mk) (t := impl_SameMark_tree (⟨a0_0, a0_1, a0_2⟩ : Mark) (⟨a1_0, a1_1, a1_2⟩ : Mark)) (by unfold Agree; kernel_rfl)⟩
  · cases h

/-- loop.example/g01284/impl.ScaleVector -/
def impl_ScaleVector_tree (a0 : Vec) (a1 : Nat) : DT (Vec) :=
  let x0 := fmul .f32 a0.X a1;
  let x1 := fmul .f32 a0.Y a1;
  let x2 := fmul .f32 a0.Z a1;
  .leaf ((⟨x0, x1, x2⟩ : Vec))
def impl_ScaleVector (a0 : Vec) (a1 : Nat) : Vec := (impl_ScaleVector_tree a0 a1).val
def impl_ScaleVector_mk (p : Vec) : Ret := ⟨.agg [.flt .f32 p.X, .flt .f32 p.Y, .flt .f32 p.Z], []⟩
def impl_ScaleVector_c : Con := fun args => match args with
  | [.agg [.flt .f32 a0_0, .flt .f32 a0_1, .flt .f32 a0_2], .flt .f32 a1] => some (.leaf (impl_ScaleVector_mk (impl_ScaleVector (⟨a0_0, a0_1, a0_2⟩ : Vec) a1)))
  | _ => none
set_option maxRecDepth 100000 in
theorem impl_ScaleVector_ok : FunOK Try.prog 21 impl_ScaleVector_c.fn := by
  refine con_ok (Γ := gam []) (gam_nil) tab_ok (by kernel_rfl) Try.func21 (by kernel_rfl) (by kernel_rfl) Try.ntmps21 Try.results21 (loopsOK_none rfl _) 100000 fun args t h => ?_
  unfold impl_ScaleVector_c at h
  split at h
  · rename_i a0_0 a0_1 a0_2 a1
    cases h
    exact ⟨rfl, agree_tot (mk := impl_ScaleVector_mk) (t := impl_ScaleVector_tree (⟨a0_0, a0_1, a0_2⟩ : Vec) a1) (by unfold Agree; kernel_rfl) (by kernel_rfl)⟩
  · cases h

/-- loop.example/g01284/impl.InShadow -/
def impl_InShadow_tree (a0 : Ball) (a1 : Vec) (a2 : Vec) : DT (Bool × Bool) :=
  .need ((impl_ValidBall_need (⟨a0.Mass, a0.Radius, a0.Spin, a0.Start⟩ : Ball))) (
  let x0 := impl_ValidBall (⟨a0.Mass, a0.Radius, a0.Spin, a0.Start⟩ : Ball);
  .ask (!x0)
  (
   .leaf (false, false))
  (
   .need ((impl_isFiniteVector_need (⟨a1.X, a1.Y, a1.Z⟩ : Vec))) (
   let x1 := impl_isFiniteVector (⟨a1.X, a1.Y, a1.Z⟩ : Vec);
   .ask (!x1)
   (
    .leaf (false, false))
   (
    .need ((impl_isFiniteVector_need (⟨a2.X, a2.Y, a2.Z⟩ : Vec))) (
    let x2 := impl_isFiniteVector (⟨a2.X, a2.Y, a2.Z⟩ : Vec);
    .ask (!x2)
    (
     .leaf (false, false))
    (
     .need ((impl_SizeOfVector_need (⟨a1.X, a1.Y, a1.Z⟩ : Vec))) (
     let x3 := impl_SizeOfVector (⟨a1.X, a1.Y, a1.Z⟩ : Vec);
     let x4 := fdiv .f32 1065353216 x3;
     let x5 := impl_ScaleVector (⟨a1.X, a1.Y, a1.Z⟩ : Vec) x4;
     let x6 := impl_InnerOf (⟨a2.X, a2.Y, a2.Z⟩ : Vec) (⟨x5.X, x5.Y, x5.Z⟩ : Vec);
     let x7 := impl_ScaleVector (⟨x5.X, x5.Y, x5.Z⟩ : Vec) x6;
     let x8 := impl_LessVectors (⟨a2.X, a2.Y, a2.Z⟩ : Vec) (⟨x7.X, x7.Y, x7.Z⟩ : Vec);
     .need ((impl_SizeOfVector_need (⟨x8.X, x8.Y, x8.Z⟩ : Vec))) (
     let x9 := impl_SizeOfVector (⟨x8.X, x8.Y, x8.Z⟩ : Vec);
     .need ((impl_isFiniteVector_need (⟨x5.X, x5.Y, x5.Z⟩ : Vec))) (
     let x10 := impl_isFiniteVector (⟨x5.X, x5.Y, x5.Z⟩ : Vec);
     .ask (!x10)
     (
      .leaf (false, false))
     (
      .need ((impl_areFinite_need ([x3, x6, x9]))) (
      let x11 := impl_areFinite ([x3, x6, x9]);
      .ask (!x11)
      (
       .leaf (false, false))
      (
       let x12 := flt .f32 x6 0;
       .ask x12
       (
        let x13 := flt .f32 x9 a0.Radius;
        .leaf (x13, true))
       (
        .leaf (false, true))))))))))))))
def impl_InShadow (a0 : Ball) (a1 : Vec) (a2 : Vec) : Bool × Bool := (impl_InShadow_tree a0 a1 a2).val
def impl_InShadow_need (a0 : Ball) (a1 : Vec) (a2 : Vec) : Bool := (impl_InShadow_tree a0 a1 a2).ok
def impl_InShadow_mk (p : Bool × Bool) : Ret := ⟨.tup [.bool p.1, .bool p.2], []⟩
def impl_InShadow_c : Con := fun args => match args with
  | [.agg [.flt .f32 a0_0, .flt .f32 a0_1, .flt .f32 a0_2, .flt .f32 a0_3], .agg [.flt .f32 a1_0, .flt .f32 a1_1, .flt .f32 a1_2], .agg [.flt .f32 a2_0, .flt .f32 a2_1, .flt .f32 a2_2]] => some (.need (impl_InShadow_need (⟨a0_0, a0_1, a0_2, a0_3⟩ : Ball) (⟨a1_0, a1_1, a1_2⟩ : Vec) (⟨a2_0, a2_1, a2_2⟩ : Vec)) (.leaf (impl_InShadow_mk (impl_InShadow (⟨a0_0, a0_1, a0_2, a0_3⟩ : Ball) (⟨a1_0, a1_1, a1_2⟩ : Vec) (⟨a2_0, a2_1, a2_2⟩ : Vec)))))
  | _ => none
set_option maxRecDepth 100000 in
theorem impl_InShadow_ok : FunOK Try.prog 20 impl_InShadow_c.fn := by
  refine con_ok (Γ := gam [(52, impl_ValidBall_c), (51, impl_isFiniteVector_c), (29, impl_SizeOfVector_c), (21, impl_ScaleVector_c), (60, impl_InnerOf_c), (61, impl_LessVectors_c), (62, impl_areFinite_c)]) (gam_cons impl_ValidBall_ok (gam_cons impl_isFiniteVector_ok (gam_cons impl_SizeOfVector_ok (gam_cons impl_ScaleVector_ok (gam_cons impl_InnerOf_ok (gam_cons impl_LessVectors_ok (gam_cons impl_areFinite_ok (gam_nil)))))))) tab_ok (by kernel_rfl) Try.func20 (by kernel_rfl) (by kernel_rfl) Try.ntmps20 Try.results20 (loopsOK_none rfl _) 100000 fun args t h => ?_
  unfold impl_InShadow_c at h
  split at h
  · rename_i a0_0 a0_1 a0_2 a0_3 a1_0 a1_1 a1_2 a2_0 a2_1 a2_2
    cases h
    exact ⟨rfl, agree_need (mk := impl_InShadow_mk) (t := impl_InShadow_tree (⟨a0_0, a0_1, a0_2, a0_3⟩ : Ball) (⟨a1_0, a1_1, a1_2⟩ : Vec) (⟨a2_0, a2_1, a2_2⟩ : Vec)) (by unfold Agree; kernel_rfl)⟩
  · cases h

/-- a loop of impl_PlacesOf -/
def impl_PlacesOf_loop0_step (p : Nat × Int × Int × Nat × Nat × Nat × Nat × Nat) (s : Int × Nat × List Vec) : Round (Int × Nat × List Vec) ((Unit) ⊕ (List Vec)) :=
  let x0 := decide (s.1 < p.2.2.1);
  .ask x0
  (
   let x1 := fofInt .f64 s.1;
   let x2 := fofInt .f64 p.2.1;
   let x3 := fdiv .f64 x1 x2;
   let x4 := impl_wrap x3;
   .need ((impl_narrowTurn_need x4)) (
   let x5 := impl_narrowTurn x4;
   .need ((impl_StateOf_need (⟨p.2.2.2.1, p.2.2.2.2.1, p.2.2.2.2.2.1, p.2.2.2.2.2.2.1, p.2.2.2.2.2.2.2, x5⟩ : Orbit) p.1)) (
   let x6 := impl_StateOf (⟨p.2.2.2.1, p.2.2.2.2.1, p.2.2.2.2.2.1, p.2.2.2.2.2.2.1, p.2.2.2.2.2.2.2, x5⟩ : Orbit) p.1;
   .ask (!x6.2.2)
   (
    .leaf (.inr (.inl ()), []))
   (
    .need ((decide ((List.length s.2.2 + List.length [(⟨x6.1.X, x6.1.Y, x6.1.Z⟩ : Vec)]) * 12 ≤ 140737488355328) && decide (List.length s.2.2 + List.length [(⟨x6.1.X, x6.1.Y, x6.1.Z⟩ : Vec)] ≤ 9223372036854775807))) (
    let x7 := s.2.2 ++ [(⟨x6.1.X, x6.1.Y, x6.1.Z⟩ : Vec)];
    let x8 := IntKind.wrap .i64 (s.1 + 1);
    .leaf (.inl (x8, x5, x7), [0, 234]))))))
  (
   .leaf (.inr (.inr s.2.2), [1]))
def impl_PlacesOf_loop0_L (p : Nat × Int × Int × Nat × Nat × Nat × Nat × Nat) : LoopS (Int × Nat × List Vec) ((Unit) ⊕ (List Vec)) := { tl := fun s => [.junk, .flt .f32 p.1, .int .i64 p.2.1, .ptr 0 0, .junk, .junk, .junk, .junk, .own 1, .junk, .junk, .junk, .junk, .junk, .junk, .junk, .junk, .junk, .junk, .junk, .junk, .junk, .junk, .junk, .junk, .junk, .junk, .junk, .int .i64 p.2.2.1, .int .i64 s.1], hl := fun s => [some (.cells [.flt .f32 p.2.2.2.1, .flt .f32 p.2.2.2.2.1, .flt .f32 p.2.2.2.2.2.1, .flt .f32 p.2.2.2.2.2.2.1, .flt .f32 p.2.2.2.2.2.2.2, .flt .f32 s.2.1]), some (.typed 49 .vec s.2.2)], ex := fun r => match r with | .inl r => .ret | .inr r => .exit 0, otl := fun r => match r with | .inl r => [.junk, .junk, .junk, .junk, .junk, .junk, .nils, .bool false] | .inr r => [.junk, .junk, .junk, .junk, .junk, .junk, .junk, .junk, .own 0], ohl := fun r => match r with | .inl r => [] | .inr r => [some (.typed 49 .vec r)] }
def impl_PlacesOf_loop0_ext : St → Option ((Nat × Int × Int × Nat × Nat × Nat × Nat × Nat) × (Int × Nat × List Vec) × List Nat) := fun S => match (S.tm 1).unK, (S.tm 2).unK, (S.tm 3).unK, (S.tm 8).unK, (S.tm 28).unK, (S.tm 29).unK with
  | .flt .f32 q0, .int .i64 q1, .ptr i0 0, .own i1, .int .i64 q2, .int .i64 q3 => (match S.hp i0 with
    | some (.cells [.flt .f32 q4, .flt .f32 q5, .flt .f32 q6, .flt .f32 q7, .flt .f32 q8, .flt .f32 q9]) => (match S.hp i1 with
    | some (.typed 49 .vec q10) => (if nodup [i0, i1] = true then some ((q0, q1, q2, q4, q5, q6, q7, q8), (q3, q9, q10), [i0, i1]) else none)
    | _ => none)
    | _ => none)
  | _, _, _, _, _, _ => none
def impl_PlacesOf_loop0_post (p : Nat × Int × Int × Nat × Nat × Nat × Nat × Nat) (r : (Unit) ⊕ (List Vec)) : DT (Ex × St) := .ask (isL r) (.leaf (.ret, LSt [.junk, .junk, .junk, .junk, .junk, .junk, .nils, .bool false] [])) (.leaf (.exit 0, LSt [.junk, .junk, .junk, .junk, .junk, .junk, .junk, .junk, .own 0] [some (.typed 49 .vec ((rightD r)))]))
def impl_PlacesOf_loop0 (p : Nat × Int × Int × Nat × Nat × Nat × Nat × Nat) (s : Int × Nat × List Vec) : (Unit) ⊕ (List Vec) := loopVal (impl_PlacesOf_loop0_step p) s
def impl_PlacesOf_loop0_ends (p : Nat × Int × Int × Nat × Nat × Nat × Nat × Nat) (s : Int × Nat × List Vec) : Bool := loopEnds (impl_PlacesOf_loop0_step p) s
def impl_PlacesOf_loop0_F : LoopF := loopF impl_PlacesOf_loop0_step impl_PlacesOf_loop0_ext impl_PlacesOf_loop0_post
set_option maxRecDepth 100000 in
theorem impl_PlacesOf_loop0_hext : ∀ S p s fl, impl_PlacesOf_loop0_ext S = some (p, s, fl) → Norm S fl ((impl_PlacesOf_loop0_L p).tl s) ((impl_PlacesOf_loop0_L p).hl s) (impl_PlacesOf_loop0_L p).gl := by
  intro S p s fl h
  unfold impl_PlacesOf_loop0_ext at h
  (repeat' split at h) <;> first
    | (cases h; constructor <;> simp_all [impl_PlacesOf_loop0_L, keepT, keepH, rens, renH, PV.ren, Blk.ren, fOf, lget, nodup, natIn, lenEq, gtm, PV.unK])
    | cases h
set_option maxRecDepth 100000 in
theorem impl_PlacesOf_loop0_hpost : ∀ p r e S', (impl_PlacesOf_loop0_post p r).get = some (e, S') → e = (impl_PlacesOf_loop0_L p).ex r ∧ S' = LSt ((impl_PlacesOf_loop0_L p).otl r) ((impl_PlacesOf_loop0_L p).ohl r) ((impl_PlacesOf_loop0_L p).ogl r) := by
  intro p r e S' h
  unfold impl_PlacesOf_loop0_post at h
  cases r <;> (simp only [isL, DT.get, Option.some.injEq, Prod.mk.injEq] at h; exact ⟨h.1.symm, h.2.symm⟩)

def impl_PlacesOf_loops : Nat → Option LoopF := loopTab [(5, impl_PlacesOf_loop0_F)]
set_option maxRecDepth 100000 in
theorem impl_PlacesOf_l0 : LoopOK Try.prog ⟨gam [(45, impl_Orbit_isAround_c), (81, impl_within_c), (48, impl_wrap_c), (47, impl_narrowTurn_c), (16, impl_StateOf_c)], tab, 55, impl_PlacesOf_loops⟩ (lp Try.f63 0) :=
  loopOK_some (F := impl_PlacesOf_loop0_F) (by kernel_rfl) (loopF_ok (E := ⟨gam [(45, impl_Orbit_isAround_c), (81, impl_within_c), (48, impl_wrap_c), (47, impl_narrowTurn_c), (16, impl_StateOf_c)], tab, 55, impl_PlacesOf_loops⟩) ⟨gam_cons impl_Orbit_isAround_ok (gam_cons impl_within_ok (gam_cons impl_wrap_ok (gam_cons impl_narrowTurn_ok (gam_cons impl_StateOf_ok (gam_nil))))), tab_ok, by kernel_rfl⟩ (fuel := 100000) (loopsOK_list (l := []) (by kernel_rfl) trivial) (L := impl_PlacesOf_loop0_L) (fun p s => by unfold AgreeL; exact ⟨by kernel_rfl, by kernel_rfl⟩) (fun _ r h => by cases r <;> exact Ex.noConfusion h) impl_PlacesOf_loop0_hext impl_PlacesOf_loop0_hpost)
/-- loop.example/g01284/impl.PlacesOf -/
def impl_PlacesOf_tree (a0 : Orbit) (a1 : Nat) (a2 : Int) : DT ((Unit) ⊕ (List Vec)) :=
  .need ((impl_Orbit_isAround_need (⟨a0.Long, a0.Round, a0.Tilt, a0.Node, a0.Peri, a0.Phase⟩ : Orbit) a1)) (
  let x0 := impl_Orbit_isAround (⟨a0.Long, a0.Round, a0.Tilt, a0.Node, a0.Peri, a0.Phase⟩ : Orbit) a1;
  .ask (!x0)
  (
   .leaf (.inl ()))
  (
   let x1 := flt .f32 a0.Long 0;
   .ask x1
   (
    .leaf (.inl ()))
   (
    let x2 := impl_within a2 1 64;
    .ask (!x2)
    (
     .leaf (.inl ()))
    (
     .need ((impl_PlacesOf_loop0_ends (a1, a2, a2, a0.Long, a0.Round, a0.Tilt, a0.Node, a0.Peri) (0, a0.Phase, []))) (
     let x3 := impl_PlacesOf_loop0 (a1, a2, a2, a0.Long, a0.Round, a0.Tilt, a0.Node, a0.Peri) (0, a0.Phase, []);
     .ask ((isL x3))
     (
      .leaf (.inl ()))
     (
      .leaf (.inr ((rightD x3)))))))))
def impl_PlacesOf (a0 : Orbit) (a1 : Nat) (a2 : Int) : (Unit) ⊕ (List Vec) := (impl_PlacesOf_tree a0 a1 a2).val
def impl_PlacesOf_need (a0 : Orbit) (a1 : Nat) (a2 : Int) : Bool := (impl_PlacesOf_tree a0 a1 a2).ok
def impl_PlacesOf_mk0 (p : Unit) : Ret := ⟨.tup [.nils, .bool false], []⟩
def impl_PlacesOf_mk1 (p : List Vec) : Ret := ⟨.tup [.own 0, .bool true], [.typed 49 .vec p]⟩
def impl_PlacesOf_mk : (Unit) ⊕ (List Vec) → Ret := fun v => match v with
  | (.inl p) => impl_PlacesOf_mk0 p
  | (.inr p) => impl_PlacesOf_mk1 p
def impl_PlacesOf_forms (v : (Unit) ⊕ (List Vec)) : DT Ret := .ask (isL v) (.leaf (impl_PlacesOf_mk0 (leftD v))) (.leaf (impl_PlacesOf_mk1 (rightD v)))
theorem impl_PlacesOf_forms_get : ∀ v, (impl_PlacesOf_forms v).get = some (impl_PlacesOf_mk v) := by
  intro v
  rcases v with v | v <;> rfl
def impl_PlacesOf_c : Con := fun args => match args with
  | [.agg [.flt .f32 a0_0, .flt .f32 a0_1, .flt .f32 a0_2, .flt .f32 a0_3, .flt .f32 a0_4, .flt .f32 a0_5], .flt .f32 a1, .int .i64 a2] => some (.need (impl_PlacesOf_need (⟨a0_0, a0_1, a0_2, a0_3, a0_4, a0_5⟩ : Orbit) a1 a2) (impl_PlacesOf_forms (impl_PlacesOf (⟨a0_0, a0_1, a0_2, a0_3, a0_4, a0_5⟩ : Orbit) a1 a2)))
  | _ => none
set_option maxRecDepth 100000 in
theorem impl_PlacesOf_ok : FunOK Try.prog 63 impl_PlacesOf_c.fn := by
  refine con_ok (Γ := gam [(45, impl_Orbit_isAround_c), (81, impl_within_c), (48, impl_wrap_c), (47, impl_narrowTurn_c), (16, impl_StateOf_c)]) (gam_cons impl_Orbit_isAround_ok (gam_cons impl_within_ok (gam_cons impl_wrap_ok (gam_cons impl_narrowTurn_ok (gam_cons impl_StateOf_ok (gam_nil)))))) tab_ok (by kernel_rfl) Try.func63 (by kernel_rfl) (by kernel_rfl) Try.ntmps63 Try.results63 (loops := impl_PlacesOf_loops) (loopsOK_list (l := [lp Try.f63 0]) (by kernel_rfl) ⟨impl_PlacesOf_l0, trivial⟩) 100000 fun args t h => ?_
  unfold impl_PlacesOf_c at h
  split at h
  · rename_i a0_0 a0_1 a0_2 a0_3 a0_4 a0_5 a1 a2
    cases h
    exact ⟨rfl, agree_forms (mk := impl_PlacesOf_mk) (t := impl_PlacesOf_tree (⟨a0_0, a0_1, a0_2, a0_3, a0_4, a0_5⟩ : Orbit) a1 a2) (by unfold Agree; kernel_rfl) (fun h => h) (impl_PlacesOf_forms_get _)⟩
  · cases h

/-- a loop of impl_ShadowShare -/
def impl_ShadowShare_loop0_step (p : Int × Int × Nat × Nat × Nat × Nat × Nat × Nat × Nat × List Vec) (s : Int × Int) : Round (Int × Int) ((Nat) ⊕ (Int)) :=
  let x0 := decide (s.2 < p.2.1);
  .ask x0
  (
   .need ((decide (0 ≤ s.2) && decide (s.2 < ((List.length p.2.2.2.2.2.2.2.2.2 : Nat) : Int)))) (
   .need ((decide ((Int.toNat s.2) < List.length p.2.2.2.2.2.2.2.2.2))) (
   let x1 := List.getD p.2.2.2.2.2.2.2.2.2 (Int.toNat s.2) default;
   .need ((impl_InShadow_need (⟨p.2.2.1, p.2.2.2.1, p.2.2.2.2.1, p.2.2.2.2.2.1⟩ : Ball) (⟨p.2.2.2.2.2.2.1, p.2.2.2.2.2.2.2.1, p.2.2.2.2.2.2.2.2.1⟩ : Vec) (⟨x1.X, x1.Y, x1.Z⟩ : Vec))) (
   let x2 := impl_InShadow (⟨p.2.2.1, p.2.2.2.1, p.2.2.2.2.1, p.2.2.2.2.2.1⟩ : Ball) (⟨p.2.2.2.2.2.2.1, p.2.2.2.2.2.2.2.1, p.2.2.2.2.2.2.2.2.1⟩ : Vec) (⟨x1.X, x1.Y, x1.Z⟩ : Vec);
   .ask (!x2.2)
   (
    .leaf (.inr (.inl 0), []))
   (
    .ask x2.1
    (
     let x3 := IntKind.wrap .i64 (s.1 + 1);
     let x4 := IntKind.wrap .i64 (s.2 + 1);
     .leaf (.inl (x3, x4), [0, 1, 2]))
    (
     let x3 := IntKind.wrap .i64 (s.2 + 1);
     .leaf (.inl (s.1, x3), [0, 1, 2])))))))
  (
   .leaf (.inr (.inr s.1), []))
def impl_ShadowShare_loop0_L (p : Int × Int × Nat × Nat × Nat × Nat × Nat × Nat × Nat × List Vec) : LoopS (Int × Int) ((Nat) ⊕ (Int)) := { tl := fun s => [.junk, .junk, .junk, .int .i64 p.1, .ptr 0 0, .junk, .ptr 1 0, .junk, .junk, .junk, .junk, .junk, .int .i64 s.1, .junk, .junk, .junk, .junk, .junk, .junk, .junk, .junk, .junk, .junk, .junk, .junk, .junk, .junk, .junk, .junk, .junk, .junk, .junk, .own 2, .int .i64 p.2.1, .int .i64 s.2], hl := fun s => [some (.cells [.flt .f32 p.2.2.1, .flt .f32 p.2.2.2.1, .flt .f32 p.2.2.2.2.1, .flt .f32 p.2.2.2.2.2.1]), some (.cells [.flt .f32 p.2.2.2.2.2.2.1, .flt .f32 p.2.2.2.2.2.2.2.1, .flt .f32 p.2.2.2.2.2.2.2.2.1]), some (.typed 49 .vec p.2.2.2.2.2.2.2.2.2)], ex := fun r => match r with | .inl r => .ret | .inr r => .exit 0, otl := fun r => match r with | .inl r => [.junk, .junk, .junk, .junk, .junk, .junk, .junk, .junk, .flt .f32 r, .bool false] | .inr r => [.junk, .junk, .junk, .int .i64 p.1, .junk, .junk, .junk, .junk, .junk, .junk, .junk, .junk, .int .i64 r], ohl := fun r => match r with | .inl r => [] | .inr r => [] }
def impl_ShadowShare_loop0_ext : St → Option ((Int × Int × Nat × Nat × Nat × Nat × Nat × Nat × Nat × List Vec) × (Int × Int) × List Nat) := fun S => match (S.tm 3).unK, (S.tm 4).unK, (S.tm 6).unK, (S.tm 12).unK, (S.tm 32).unK, (S.tm 33).unK, (S.tm 34).unK with
  | .int .i64 q0, .ptr i0 0, .ptr i1 0, .int .i64 q1, .own i2, .int .i64 q2, .int .i64 q3 => (match S.hp i0 with
    | some (.cells [.flt .f32 q4, .flt .f32 q5, .flt .f32 q6, .flt .f32 q7]) => (match S.hp i1 with
    | some (.cells [.flt .f32 q8, .flt .f32 q9, .flt .f32 q10]) => (match S.hp i2 with
    | some (.typed 49 .vec q11) => (if nodup [i0, i1, i2] = true then some ((q0, q2, q4, q5, q6, q7, q8, q9, q10, q11), (q1, q3), [i0, i1, i2]) else none)
    | _ => none)
    | _ => none)
    | _ => none)
  | _, _, _, _, _, _, _ => none
def impl_ShadowShare_loop0_post (p : Int × Int × Nat × Nat × Nat × Nat × Nat × Nat × Nat × List Vec) (r : (Nat) ⊕ (Int)) : DT (Ex × St) := .ask (isL r) (.leaf (.ret, LSt [.junk, .junk, .junk, .junk, .junk, .junk, .junk, .junk, .flt .f32 ((leftD r)), .bool false] [])) (.leaf (.exit 0, LSt [.junk, .junk, .junk, .int .i64 p.1, .junk, .junk, .junk, .junk, .junk, .junk, .junk, .junk, .int .i64 ((rightD r))] []))
def impl_ShadowShare_loop0 (p : Int × Int × Nat × Nat × Nat × Nat × Nat × Nat × Nat × List Vec) (s : Int × Int) : (Nat) ⊕ (Int) := loopVal (impl_ShadowShare_loop0_step p) s
def impl_ShadowShare_loop0_ends (p : Int × Int × Nat × Nat × Nat × Nat × Nat × Nat × Nat × List Vec) (s : Int × Int) : Bool := loopEnds (impl_ShadowShare_loop0_step p) s
def impl_ShadowShare_loop0_F : LoopF := loopF impl_ShadowShare_loop0_step impl_ShadowShare_loop0_ext impl_ShadowShare_loop0_post
set_option maxRecDepth 100000 in
theorem impl_ShadowShare_loop0_hext : ∀ S p s fl, impl_ShadowShare_loop0_ext S = some (p, s, fl) → Norm S fl ((impl_ShadowShare_loop0_L p).tl s) ((impl_ShadowShare_loop0_L p).hl s) (impl_ShadowShare_loop0_L p).gl := by
  intro S p s fl h
  unfold impl_ShadowShare_loop0_ext at h
  (repeat' split at h) <;> first
    | (cases h; constructor <;> simp_all [impl_ShadowShare_loop0_L, keepT, keepH, rens, renH, PV.ren, Blk.ren, fOf, lget, nodup, natIn, lenEq, gtm, PV.unK])
    | cases h
set_option maxRecDepth 100000 in
theorem impl_ShadowShare_loop0_hpost : ∀ p r e S', (impl_ShadowShare_loop0_post p r).get = some (e, S') → e = (impl_ShadowShare_loop0_L p).ex r ∧ S' = LSt ((impl_ShadowShare_loop0_L p).otl r) ((impl_ShadowShare_loop0_L p).ohl r) ((impl_ShadowShare_loop0_L p).ogl r) := by
  intro p r e S' h
  unfold impl_ShadowShare_loop0_post at h
  cases r <;> (simp only [isL, DT.get, Option.some.injEq, Prod.mk.injEq] at h; exact ⟨h.1.symm, h.2.symm⟩)

def impl_ShadowShare_loops : Nat → Option LoopF := loopTab [(6, impl_ShadowShare_loop0_F)]
set_option maxRecDepth 100000 in
theorem impl_ShadowShare_l0 : LoopOK Try.prog ⟨gam [(63, impl_PlacesOf_c), (52, impl_ValidBall_c), (20, impl_InShadow_c)], tab, 56, impl_ShadowShare_loops⟩ (lp Try.f22 0) :=
  loopOK_some (F := impl_ShadowShare_loop0_F) (by kernel_rfl) (loopF_ok (E := ⟨gam [(63, impl_PlacesOf_c), (52, impl_ValidBall_c), (20, impl_InShadow_c)], tab, 56, impl_ShadowShare_loops⟩) ⟨gam_cons impl_PlacesOf_ok (gam_cons impl_ValidBall_ok (gam_cons impl_InShadow_ok (gam_nil))), tab_ok, by kernel_rfl⟩ (fuel := 100000) (loopsOK_list (l := []) (by kernel_rfl) trivial) (L := impl_ShadowShare_loop0_L) (fun p s => by unfold AgreeL; exact ⟨by kernel_rfl, by kernel_rfl⟩) (fun _ r h => by cases r <;> exact Ex.noConfusion h) impl_ShadowShare_loop0_hext impl_ShadowShare_loop0_hpost)
/-- loop.example/g01284/impl.ShadowShare -/
def impl_ShadowShare_tree (a0 : Ball) (a1 : Orbit) (a2 : Vec) (a3 : Int) : DT (Nat × Bool) :=
  .need ((impl_PlacesOf_need (⟨a1.Long, a1.Round, a1.Tilt, a1.Node, a1.Peri, a1.Phase⟩ : Orbit) a0.Mass a3)) (
  let x0 := impl_PlacesOf (⟨a1.Long, a1.Round, a1.Tilt, a1.Node, a1.Peri, a1.Phase⟩ : Orbit) a0.Mass a3;
  .ask ((isL x0))
  (
   .skip (
   .skip (
   .skip (
   .skip (
   .leaf (0, false))))))
  (
   .skip (
   .skip (
   .need ((impl_ValidBall_need (⟨a0.Mass, a0.Radius, a0.Spin, a0.Start⟩ : Ball))) (
   let x1 := impl_ValidBall (⟨a0.Mass, a0.Radius, a0.Spin, a0.Start⟩ : Ball);
   .skip (
   .skip (
   .ask (!x1)
   (
    .leaf (0, false))
   (
    let x2 := ((List.length (rightD x0) : Nat) : Int);
    .need ((impl_ShadowShare_loop0_ends (a3, x2, a0.Mass, a0.Radius, a0.Spin, a0.Start, a2.X, a2.Y, a2.Z, (rightD x0)) (0, 0))) (
    let x3 := impl_ShadowShare_loop0 (a3, x2, a0.Mass, a0.Radius, a0.Spin, a0.Start, a2.X, a2.Y, a2.Z, (rightD x0)) (0, 0);
    .ask ((isL x3))
    (
     .leaf ((leftD x3), false))
    (
     let x4 := fofInt .f32 (rightD x3);
     let x5 := fofInt .f32 a3;
     let x6 := fdiv .f32 x4 x5;
     .leaf (x6, true)))))))))))
def impl_ShadowShare (a0 : Ball) (a1 : Orbit) (a2 : Vec) (a3 : Int) : Nat × Bool := (impl_ShadowShare_tree a0 a1 a2 a3).val
def impl_ShadowShare_need (a0 : Ball) (a1 : Orbit) (a2 : Vec) (a3 : Int) : Bool := (impl_ShadowShare_tree a0 a1 a2 a3).ok
def impl_ShadowShare_mk (p : Nat × Bool) : Ret := ⟨.tup [.flt .f32 p.1, .bool p.2], []⟩
def impl_ShadowShare_c : Con := fun args => match args with
  | [.agg [.flt .f32 a0_0, .flt .f32 a0_1, .flt .f32 a0_2, .flt .f32 a0_3], .agg [.flt .f32 a1_0, .flt .f32 a1_1, .flt .f32 a1_2, .flt .f32 a1_3, .flt .f32 a1_4, .flt .f32 a1_5], .agg [.flt .f32 a2_0, .flt .f32 a2_1, .flt .f32 a2_2], .int .i64 a3] => some (.need (impl_ShadowShare_need (⟨a0_0, a0_1, a0_2, a0_3⟩ : Ball) (⟨a1_0, a1_1, a1_2, a1_3, a1_4, a1_5⟩ : Orbit) (⟨a2_0, a2_1, a2_2⟩ : Vec) a3) (.leaf (impl_ShadowShare_mk (impl_ShadowShare (⟨a0_0, a0_1, a0_2, a0_3⟩ : Ball) (⟨a1_0, a1_1, a1_2, a1_3, a1_4, a1_5⟩ : Orbit) (⟨a2_0, a2_1, a2_2⟩ : Vec) a3))))
  | _ => none
set_option maxRecDepth 100000 in
theorem impl_ShadowShare_ok : FunOK Try.prog 22 impl_ShadowShare_c.fn := by
  refine con_ok (Γ := gam [(63, impl_PlacesOf_c), (52, impl_ValidBall_c), (20, impl_InShadow_c)]) (gam_cons impl_PlacesOf_ok (gam_cons impl_ValidBall_ok (gam_cons impl_InShadow_ok (gam_nil)))) tab_ok (by kernel_rfl) Try.func22 (by kernel_rfl) (by kernel_rfl) Try.ntmps22 Try.results22 (loops := impl_ShadowShare_loops) (loopsOK_list (l := [lp Try.f22 0]) (by kernel_rfl) ⟨impl_ShadowShare_l0, trivial⟩) 100000 fun args t h => ?_
  unfold impl_ShadowShare_c at h
  split at h
  · rename_i a0_0 a0_1 a0_2 a0_3 a1_0 a1_1 a1_2 a1_3 a1_4 a1_5 a2_0 a2_1 a2_2 a3
    cases h
    exact ⟨rfl, agree_need (mk := impl_ShadowShare_mk) (t := impl_ShadowShare_tree (⟨a0_0, a0_1, a0_2, a0_3⟩ : Ball) (⟨a1_0, a1_1, a1_2, a1_3, a1_4, a1_5⟩ : Orbit) (⟨a2_0, a2_1, a2_2⟩ : Vec) a3) (by unfold Agree; kernel_rfl)⟩
  · cases h

end
end Go.Proofs.Ytkmcgfjhjfiomaa
