/- THE WALK, BY A PROGRAM: typed functions, and that the code is they. -/
import Derived.Test.YtacelaaifaffpaaTab
namespace Go.Proofs.Ytacelaaifaffpaa
set_option linter.unusedVariables false
set_option linter.unusedSimpArgs false
open Go.Extern
noncomputable section

set_option maxRecDepth 100000 in
theorem math_sqrt_ok : FunOK Try.prog 41 math_sqrt_c.fn := sqrt_ok (run_callFunc_extern Try.func41 (by kernel_rfl) (by kernel_rfl) (by kernel_rfl) (by kernel_rfl))

set_option maxRecDepth 100000 in
theorem math_Float64bits_ok : FunOK Try.prog 57 math_Float64bits_c.fn := bits64_ok (run_callFunc_extern Try.func57 (by kernel_rfl) (by kernel_rfl) (by kernel_rfl) (by kernel_rfl))

set_option maxRecDepth 100000 in
theorem math_Float64frombits_ok : FunOK Try.prog 56 math_Float64frombits_c.fn := frombits64_ok (run_callFunc_extern Try.func56 (by kernel_rfl) (by kernel_rfl) (by kernel_rfl) (by kernel_rfl))

/-- loop.example/g01284/spec.l01Finite -/
def spec_l01Finite_tree (a0 : Nat) : DT (Bool) :=
  let x0 := fsub .f32 a0 a0;
  let x1 := feq .f32 x0 0;
  .leaf x1
def spec_l01Finite (a0 : Nat) : Bool := (spec_l01Finite_tree a0).val
def spec_l01Finite_mk (p : Bool) : Ret := ⟨.bool p, []⟩
def spec_l01Finite_c : Con := fun args => match args with
  | [.flt .f32 a0] => some (.leaf (spec_l01Finite_mk (spec_l01Finite a0)))
  | _ => none
set_option maxRecDepth 100000 in
theorem spec_l01Finite_ok : FunOK Try.prog 34 spec_l01Finite_c.fn := by
  refine con_ok (Γ := gam []) (gam_nil) tab_ok (by kernel_rfl) Try.func34 (by kernel_rfl) (by kernel_rfl) Try.ntmps34 Try.results34 (loopsOK_none rfl _) 100000 fun args t h => ?_
  unfold spec_l01Finite_c at h
  split at h
  · rename_i a0
    cases h
    exact ⟨rfl, agree_tot (mk := spec_l01Finite_mk) (t := spec_l01Finite_tree a0) (by unfold Agree; kernel_rfl) (by kernel_rfl)⟩
  · cases h

/-- loop.example/g01284/spec.l02Least -/
def spec_l02Least_tree (a0 : Nat) : DT (Bool) :=
  let x0 := spec_l01Finite a0;
  .ask x0
  (
   let x1 := fge .f32 a0 0;
   .leaf x1)
  (
   .leaf false)
def spec_l02Least (a0 : Nat) : Bool := (spec_l02Least_tree a0).val
def spec_l02Least_mk (p : Bool) : Ret := ⟨.bool p, []⟩
def spec_l02Least_c : Con := fun args => match args with
  | [.flt .f32 a0] => some (.leaf (spec_l02Least_mk (spec_l02Least a0)))
  | _ => none
set_option maxRecDepth 100000 in
theorem spec_l02Least_ok : FunOK Try.prog 22 spec_l02Least_c.fn := by
  refine con_ok (Γ := gam [(34, spec_l01Finite_c)]) (gam_cons spec_l01Finite_ok (gam_nil)) tab_ok (by kernel_rfl) Try.func22 (by kernel_rfl) (by kernel_rfl) Try.ntmps22 Try.results22 (loopsOK_none rfl _) 100000 fun args t h => ?_
  unfold spec_l02Least_c at h
  split at h
  · rename_i a0
    cases h
    exact ⟨rfl, agree_tot (mk := spec_l02Least_mk) (t := spec_l02Least_tree a0) (by unfold Agree; kernel_rfl) (by kernel_rfl)⟩
  · cases h

/-- loop.example/g01284/spec.l02Above -/
def spec_l02Above_tree (a0 : Nat) : DT (Bool) :=
  let x0 := spec_l01Finite a0;
  .ask x0
  (
   let x1 := fgt .f32 a0 0;
   .leaf x1)
  (
   .leaf false)
def spec_l02Above (a0 : Nat) : Bool := (spec_l02Above_tree a0).val
def spec_l02Above_mk (p : Bool) : Ret := ⟨.bool p, []⟩
def spec_l02Above_c : Con := fun args => match args with
  | [.flt .f32 a0] => some (.leaf (spec_l02Above_mk (spec_l02Above a0)))
  | _ => none
set_option maxRecDepth 100000 in
theorem spec_l02Above_ok : FunOK Try.prog 23 spec_l02Above_c.fn := by
  refine con_ok (Γ := gam [(34, spec_l01Finite_c)]) (gam_cons spec_l01Finite_ok (gam_nil)) tab_ok (by kernel_rfl) Try.func23 (by kernel_rfl) (by kernel_rfl) Try.ntmps23 Try.results23 (loopsOK_none rfl _) 100000 fun args t h => ?_
  unfold spec_l02Above_c at h
  split at h
  · rename_i a0
    cases h
    exact ⟨rfl, agree_tot (mk := spec_l02Above_mk) (t := spec_l02Above_tree a0) (by unfold Agree; kernel_rfl) (by kernel_rfl)⟩
  · cases h

/-- math.Sqrt -/
def math_Sqrt_tree (a0 : Nat) : DT (Nat) :=
  let x0 := fsqrt a0;
  .leaf x0
def math_Sqrt (a0 : Nat) : Nat := (math_Sqrt_tree a0).val
def math_Sqrt_mk (p : Nat) : Ret := ⟨.flt .f64 p, []⟩
def math_Sqrt_c : Con := fun args => match args with
  | [.flt .f64 a0] => some (.leaf (math_Sqrt_mk (math_Sqrt a0)))
  | _ => none
set_option maxRecDepth 100000 in
theorem math_Sqrt_ok : FunOK Try.prog 36 math_Sqrt_c.fn := by
  refine con_ok (Γ := gam [(41, math_sqrt_c)]) (gam_cons math_sqrt_ok (gam_nil)) tab_ok (by kernel_rfl) Try.func36 (by kernel_rfl) (by kernel_rfl) Try.ntmps36 Try.results36 (loopsOK_none rfl _) 100000 fun args t h => ?_
  unfold math_Sqrt_c at h
  split at h
  · rename_i a0
    cases h
    exact ⟨rfl, agree_tot (mk := math_Sqrt_mk) (t := math_Sqrt_tree a0) (by unfold Agree; kernel_rfl) (by kernel_rfl)⟩
  · cases h

/-- loop.example/g01284/spec.l01Narrow -/
def spec_l01Narrow_tree (a0 : Nat) : DT (Nat) :=
  .need ((fconvOk .f64 a0 .f32)) (
  let x0 := fconv .f64 a0 .f32;
  .leaf x0)
def spec_l01Narrow (a0 : Nat) : Nat := (spec_l01Narrow_tree a0).val
def spec_l01Narrow_need (a0 : Nat) : Bool := (spec_l01Narrow_tree a0).ok
def spec_l01Narrow_mk (p : Nat) : Ret := ⟨.flt .f32 p, []⟩
def spec_l01Narrow_c : Con := fun args => match args with
  | [.flt .f64 a0] => some (.need (spec_l01Narrow_need a0) (.leaf (spec_l01Narrow_mk (spec_l01Narrow a0))))
  | _ => none
set_option maxRecDepth 100000 in
theorem spec_l01Narrow_ok : FunOK Try.prog 35 spec_l01Narrow_c.fn := by
  refine con_ok (Γ := gam []) (gam_nil) tab_ok (by kernel_rfl) Try.func35 (by kernel_rfl) (by kernel_rfl) Try.ntmps35 Try.results35 (loopsOK_none rfl _) 100000 fun args t h => ?_
  unfold spec_l01Narrow_c at h
  split at h
  · rename_i a0
    cases h
    exact ⟨rfl, agree_need (mk := spec_l01Narrow_mk) (t := spec_l01Narrow_tree a0) (by unfold Agree; kernel_rfl)⟩
  · cases h

/-- loop.example/g01284/spec.l01Sqrt -/
def spec_l01Sqrt_tree (a0 : Nat) : DT (Nat) :=
  .need ((fconvOk .f32 a0 .f64)) (
  let x0 := fconv .f32 a0 .f64;
  let x1 := math_Sqrt x0;
  .need ((spec_l01Narrow_need x1)) (
  let x2 := spec_l01Narrow x1;
  .leaf x2))
def spec_l01Sqrt (a0 : Nat) : Nat := (spec_l01Sqrt_tree a0).val
def spec_l01Sqrt_need (a0 : Nat) : Bool := (spec_l01Sqrt_tree a0).ok
def spec_l01Sqrt_mk (p : Nat) : Ret := ⟨.flt .f32 p, []⟩
def spec_l01Sqrt_c : Con := fun args => match args with
  | [.flt .f32 a0] => some (.need (spec_l01Sqrt_need a0) (.leaf (spec_l01Sqrt_mk (spec_l01Sqrt a0))))
  | _ => none
set_option maxRecDepth 100000 in
theorem spec_l01Sqrt_ok : FunOK Try.prog 24 spec_l01Sqrt_c.fn := by
  refine con_ok (Γ := gam [(36, math_Sqrt_c), (35, spec_l01Narrow_c)]) (gam_cons math_Sqrt_ok (gam_cons spec_l01Narrow_ok (gam_nil))) tab_ok (by kernel_rfl) Try.func24 (by kernel_rfl) (by kernel_rfl) Try.ntmps24 Try.results24 (loopsOK_none rfl _) 100000 fun args t h => ?_
  unfold spec_l01Sqrt_c at h
  split at h
  · rename_i a0
    cases h
    exact ⟨rfl, agree_need (mk := spec_l01Sqrt_mk) (t := spec_l01Sqrt_tree a0) (by unfold Agree; kernel_rfl)⟩
  · cases h

/-- loop.example/g01284/spec.l01VFinite -/
def spec_l01VFinite_tree (a0 : Vec) : DT (Bool) :=
  let x0 := spec_l01Finite a0.X;
  .ask x0
  (
   let x1 := spec_l01Finite a0.Y;
   .ask x1
   (
    let x2 := spec_l01Finite a0.Z;
    .leaf x2)
   (
    .leaf false))
  (
   .leaf false)
def spec_l01VFinite (a0 : Vec) : Bool := (spec_l01VFinite_tree a0).val
def spec_l01VFinite_mk (p : Bool) : Ret := ⟨.bool p, []⟩
def spec_l01VFinite_c : Con := fun args => match args with
  | [.agg [.flt .f32 a0_0, .flt .f32 a0_1, .flt .f32 a0_2]] => some (.leaf (spec_l01VFinite_mk (spec_l01VFinite (⟨a0_0, a0_1, a0_2⟩ : Vec))))
  | _ => none
set_option maxRecDepth 100000 in
theorem spec_l01VFinite_ok : FunOK Try.prog 47 spec_l01VFinite_c.fn := by
  refine con_ok (Γ := gam [(34, spec_l01Finite_c)]) (gam_cons spec_l01Finite_ok (gam_nil)) tab_ok (by kernel_rfl) Try.func47 (by kernel_rfl) (by kernel_rfl) Try.ntmps47 Try.results47 (loopsOK_none rfl _) 100000 fun args t h => ?_
  unfold spec_l01VFinite_c at h
  split at h
  · rename_i a0_0 a0_1 a0_2
    cases h
    exact ⟨rfl, agree_tot (mk := spec_l01VFinite_mk) (t := spec_l01VFinite_tree (⟨a0_0, a0_1, a0_2⟩ : Vec)) (by unfold Agree; kernel_rfl) (by kernel_rfl)⟩
  · cases h

/-- loop.example/g01284/spec.l02Body -/
def spec_l02Body_tree (a0 : Body) : DT (Bool) :=
  let x0 := spec_l01VFinite (⟨a0.At.X, a0.At.Y, a0.At.Z⟩ : Vec);
  .ask x0
  (
   let x1 := spec_l01VFinite (⟨a0.Speed.X, a0.Speed.Y, a0.Speed.Z⟩ : Vec);
   .ask x1
   (
    let x2 := spec_l02Least a0.Mass;
    .leaf x2)
   (
    .leaf false))
  (
   .leaf false)
def spec_l02Body (a0 : Body) : Bool := (spec_l02Body_tree a0).val
def spec_l02Body_mk (p : Bool) : Ret := ⟨.bool p, []⟩
def spec_l02Body_c0 : Con := fun args => match args with
  | [.vcell [.flt .f32 a0_0, .flt .f32 a0_1, .flt .f32 a0_2, .flt .f32 a0_3, .flt .f32 a0_4, .flt .f32 a0_5, .flt .f32 a0_6] 0] => some (.leaf (spec_l02Body_mk (spec_l02Body (⟨⟨a0_0, a0_1, a0_2⟩, ⟨a0_3, a0_4, a0_5⟩, a0_6⟩ : Body))))
  | _ => none
set_option maxRecDepth 100000 in
theorem spec_l02Body_ok0 : FunOK Try.prog 42 spec_l02Body_c0.fn := by
  refine con_ok (Γ := gam [(47, spec_l01VFinite_c), (22, spec_l02Least_c)]) (gam_cons spec_l01VFinite_ok (gam_cons spec_l02Least_ok (gam_nil))) tab_ok (by kernel_rfl) Try.func42 (by kernel_rfl) (by kernel_rfl) Try.ntmps42 Try.results42 (loopsOK_none rfl _) 100000 fun args t h => ?_
  unfold spec_l02Body_c0 at h
  split at h
  · rename_i a0_0 a0_1 a0_2 a0_3 a0_4 a0_5 a0_6
    cases h
    exact ⟨rfl, agree_tot (mk := spec_l02Body_mk) (t := spec_l02Body_tree (⟨⟨a0_0, a0_1, a0_2⟩, ⟨a0_3, a0_4, a0_5⟩, a0_6⟩ : Body)) (by unfold Agree; kernel_rfl) (by kernel_rfl)⟩
  · cases h
def spec_l02Body_c : Con := fun args => spec_l02Body_c0 (norms 0 [.ptr 7] args)
set_option maxRecDepth 100000 in
theorem spec_l02Body_ok : FunOK Try.prog 42 spec_l02Body_c.fn := con_norm [.ptr 7] spec_l02Body_ok0

/-- a loop of spec_l02Are -/
def spec_l02Are_loop0_step (p : List Body) (s : Int) : Round (Int) ((Unit) ⊕ (Unit)) :=
  let x0 := ((List.length p : Nat) : Int);
  let x1 := decide (s < x0);
  .ask x1
  (
   let x2 := ((List.length p : Nat) : Int);
   let x3 := decide (x2 ≤ 16);
   .ask x3
   (
    .need ((decide (0 ≤ s) && decide (s < ((List.length p : Nat) : Int)))) (
    let x4 := List.getD p (Int.toNat s) default;
    let x5 := spec_l02Body (⟨⟨x4.At.X, x4.At.Y, x4.At.Z⟩, ⟨x4.Speed.X, x4.Speed.Y, x4.Speed.Z⟩, x4.Mass⟩ : Body);
    .ask (!x5)
    (
     .leaf (.inr (.inl ()), []))
    (
     let x6 := IntKind.wrap .i64 (s + 1);
     .leaf (.inl x6, []))))
   (
    .leaf (.inr (.inr ()), [])))
  (
   .leaf (.inr (.inr ()), []))
def spec_l02Are_loop0_L (p : List Body) : LoopS (Int) ((Unit) ⊕ (Unit)) := { tl := fun s => [.vslc 1 .body p, .junk, .junk, .int .i64 s], hl := fun s => [], ex := fun r => match r with | .inl r => .ret | .inr r => .exit 0, otl := fun r => match r with | .inl r => [.junk, .junk, .bool false] | .inr r => [.vslc 1 .body p], ohl := fun r => match r with | .inl r => [] | .inr r => [] }
def spec_l02Are_loop0_ext : St → Option ((List Body) × (Int) × List Nat) := fun S => match (S.tm 0).unK, (S.tm 3).unK with
  | .vslc 1 .body q0, .int .i64 q1 => some (q0, q1, [])
  | _, _ => none
def spec_l02Are_loop0_post (p : List Body) (r : (Unit) ⊕ (Unit)) : DT (Ex × St) := .ask (isL r) (.leaf (.ret, LSt [.junk, .junk, .bool false] [])) (.leaf (.exit 0, LSt [.vslc 1 .body p] []))
def spec_l02Are_loop0 (p : List Body) (s : Int) : (Unit) ⊕ (Unit) := loopVal (spec_l02Are_loop0_step p) s
def spec_l02Are_loop0_ends (p : List Body) (s : Int) : Bool := loopEnds (spec_l02Are_loop0_step p) s
def spec_l02Are_loop0_F : LoopF := loopF spec_l02Are_loop0_step spec_l02Are_loop0_ext spec_l02Are_loop0_post
theorem spec_l02Are_loop0_hext : ∀ S p s fl, spec_l02Are_loop0_ext S = some (p, s, fl) → Norm S fl ((spec_l02Are_loop0_L p).tl s) ((spec_l02Are_loop0_L p).hl s) (spec_l02Are_loop0_L p).gl := by
  intro S p s fl h
  unfold spec_l02Are_loop0_ext at h
  (repeat' split at h) <;> first
    | (cases h; constructor <;> simp_all [spec_l02Are_loop0_L, keepT, keepH, rens, renH, PV.ren, Blk.ren, fOf, lget, nodup, natIn, lenEq, gtm, PV.unK])
    | cases h
theorem spec_l02Are_loop0_hpost : ∀ p r e S', (spec_l02Are_loop0_post p r).get = some (e, S') → e = (spec_l02Are_loop0_L p).ex r ∧ S' = LSt ((spec_l02Are_loop0_L p).otl r) ((spec_l02Are_loop0_L p).ohl r) ((spec_l02Are_loop0_L p).ogl r) := by
  intro p r e S' h
  unfold spec_l02Are_loop0_post at h
  cases r <;> (simp only [isL, DT.get, Option.some.injEq, Prod.mk.injEq] at h; exact ⟨h.1.symm, h.2.symm⟩)

def spec_l02Are_loops : Nat → Option LoopF := loopTab [(2, spec_l02Are_loop0_F)]
set_option maxRecDepth 100000 in
theorem spec_l02Are_l0 : LoopOK Try.prog ⟨gam [(42, spec_l02Body_c)], tab, 23, spec_l02Are_loops⟩ (lp Try.f37 0) :=
  loopOK_some (F := spec_l02Are_loop0_F) (by kernel_rfl) (loopF_ok (E := ⟨gam [(42, spec_l02Body_c)], tab, 23, spec_l02Are_loops⟩) ⟨gam_cons spec_l02Body_ok (gam_nil), tab_ok, by kernel_rfl⟩ (fuel := 100000) (loopsOK_list (l := []) (by kernel_rfl) trivial) (L := spec_l02Are_loop0_L) (fun p s => by unfold AgreeL; exact ⟨by kernel_rfl, by kernel_rfl⟩) (fun _ r h => by cases r <;> exact Ex.noConfusion h) spec_l02Are_loop0_hext spec_l02Are_loop0_hpost)
/-- loop.example/g01284/spec.l02Are -/
def spec_l02Are_tree (a0 : List Body) : DT (Bool) :=
  .need ((spec_l02Are_loop0_ends a0 0)) (
  let x0 := spec_l02Are_loop0 a0 0;
  .ask ((isL x0))
  (
   .leaf false)
  (
   let x1 := ((List.length a0 : Nat) : Int);
   let x2 := decide (x1 ≤ 16);
   .leaf x2))
def spec_l02Are (a0 : List Body) : Bool := (spec_l02Are_tree a0).val
def spec_l02Are_need (a0 : List Body) : Bool := (spec_l02Are_tree a0).ok
def spec_l02Are_mk (p : Bool) : Ret := ⟨.bool p, []⟩
def spec_l02Are_c0 : Con := fun args => match args with
  | [.vslc 1 .body a0] => some (.need (spec_l02Are_need a0) (.leaf (spec_l02Are_mk (spec_l02Are a0))))
  | _ => none
set_option maxRecDepth 100000 in
theorem spec_l02Are_ok0 : FunOK Try.prog 37 spec_l02Are_c0.fn := by
  refine con_ok (Γ := gam [(42, spec_l02Body_c)]) (gam_cons spec_l02Body_ok (gam_nil)) tab_ok (by kernel_rfl) Try.func37 (by kernel_rfl) (by kernel_rfl) Try.ntmps37 Try.results37 (loops := spec_l02Are_loops) (loopsOK_list (l := [lp Try.f37 0]) (by kernel_rfl) ⟨spec_l02Are_l0, trivial⟩) 100000 fun args t h => ?_
  unfold spec_l02Are_c0 at h
  split at h
  · rename_i a0
    cases h
    exact ⟨rfl, agree_need (mk := spec_l02Are_mk) (t := spec_l02Are_tree a0) (by unfold Agree; kernel_rfl)⟩
  · cases h
def spec_l02Are_c : Con := fun args => spec_l02Are_c0 (norms 0 [.slc .body] args)
set_option maxRecDepth 100000 in
theorem spec_l02Are_ok : FunOK Try.prog 37 spec_l02Are_c.fn := con_norm [.slc .body] spec_l02Are_ok0

/-- loop.example/g01284/spec.l02Give -/
def spec_l02Give_tree (a0 : List Body) : DT ((Unit) ⊕ (List Body)) :=
  .need ((spec_l02Are_need a0)) (
  let x0 := spec_l02Are a0;
  .ask (!x0)
  (
   .leaf (.inl ()))
  (
   .leaf (.inr a0)))
def spec_l02Give (a0 : List Body) : (Unit) ⊕ (List Body) := (spec_l02Give_tree a0).val
def spec_l02Give_need (a0 : List Body) : Bool := (spec_l02Give_tree a0).ok
def spec_l02Give_mk0 (p : Unit) : Ret := ⟨.tup [.nils, .bool false], []⟩
def spec_l02Give_mk1 (p : List Body) : Ret := ⟨.tup [.vslc 1 .body p, .bool true], []⟩
def spec_l02Give_mk : (Unit) ⊕ (List Body) → Ret := fun v => match v with
  | (.inl p) => spec_l02Give_mk0 p
  | (.inr p) => spec_l02Give_mk1 p
def spec_l02Give_forms (v : (Unit) ⊕ (List Body)) : DT Ret := .ask (isL v) (.leaf (spec_l02Give_mk0 (leftD v))) (.leaf (spec_l02Give_mk1 (rightD v)))
theorem spec_l02Give_forms_get : ∀ v, (spec_l02Give_forms v).get = some (spec_l02Give_mk v) := by
  intro v
  rcases v with v | v <;> rfl
def spec_l02Give_c0 : Con := fun args => match args with
  | [.vslc 1 .body a0] => some (.need (spec_l02Give_need a0) (spec_l02Give_forms (spec_l02Give a0)))
  | _ => none
set_option maxRecDepth 100000 in
theorem spec_l02Give_ok0 : FunOK Try.prog 25 spec_l02Give_c0.fn := by
  refine con_ok (Γ := gam [(37, spec_l02Are_c)]) (gam_cons spec_l02Are_ok (gam_nil)) tab_ok (by kernel_rfl) Try.func25 (by kernel_rfl) (by kernel_rfl) Try.ntmps25 Try.results25 (loopsOK_none rfl _) 100000 fun args t h => ?_
  unfold spec_l02Give_c0 at h
  split at h
  · rename_i a0
    cases h
    exact ⟨rfl, agree_forms (mk := spec_l02Give_mk) (t := spec_l02Give_tree a0) (by unfold Agree; kernel_rfl) (fun h => h) (spec_l02Give_forms_get _)⟩
  · cases h
def spec_l02Give_c : Con := fun args => spec_l02Give_c0 (norms 0 [.slc .body] args)
set_option maxRecDepth 100000 in
theorem spec_l02Give_ok : FunOK Try.prog 25 spec_l02Give_c.fn := con_norm [.slc .body] spec_l02Give_ok0

/-- loop.example/g01284/spec.CircleBodies -/
def spec_CircleBodies_tree (a0 : Nat) (a1 : Nat) (a2 : Nat) : DT ((Unit) ⊕ (List Body)) :=
  let x0 := fadd .f32 a0 a1;
  let x1 := spec_l02Least a0;
  .ask (!x1)
  (
   .leaf (.inl ()))
  (
   let x2 := spec_l02Least a1;
   .ask (!x2)
   (
    .leaf (.inl ()))
   (
    let x3 := spec_l02Above x0;
    .ask (!x3)
    (
     .leaf (.inl ()))
    (
     let x4 := spec_l02Above a2;
     .ask (!x4)
     (
      .leaf (.inl ()))
     (
      let x5 := fmul .f32 a2 a2;
      let x6 := fmul .f32 x5 a2;
      let x7 := fdiv .f32 x0 x6;
      .need ((spec_l01Sqrt_need x7)) (
      let x8 := spec_l01Sqrt x7;
      let x9 := fmul .f32 a2 a1;
      let x10 := fdiv .f32 x9 x0;
      let x11 := fneg .f32 x10;
      let x12 := fmul .f32 a2 a0;
      let x13 := fdiv .f32 x12 x0;
      let x14 := fmul .f32 x8 x11;
      let x15 := fmul .f32 x8 x13;
      .need ((spec_l02Give_need ([(⟨⟨x11, 0, 0⟩, ⟨0, x14, 0⟩, a0⟩ : Body), (⟨⟨x13, 0, 0⟩, ⟨0, x15, 0⟩, a1⟩ : Body)]))) (
      let x16 := spec_l02Give ([(⟨⟨x11, 0, 0⟩, ⟨0, x14, 0⟩, a0⟩ : Body), (⟨⟨x13, 0, 0⟩, ⟨0, x15, 0⟩, a1⟩ : Body)]);
      .ask ((isL x16))
      (
       .leaf (.inl ()))
      (
       .leaf (.inr ([(⟨⟨x11, 0, 0⟩, ⟨0, x14, 0⟩, a0⟩ : Body), (⟨⟨x13, 0, 0⟩, ⟨0, x15, 0⟩, a1⟩ : Body)])))))))))
def spec_CircleBodies (a0 : Nat) (a1 : Nat) (a2 : Nat) : (Unit) ⊕ (List Body) := (spec_CircleBodies_tree a0 a1 a2).val
def spec_CircleBodies_need (a0 : Nat) (a1 : Nat) (a2 : Nat) : Bool := (spec_CircleBodies_tree a0 a1 a2).ok
def spec_CircleBodies_mk0 (p : Unit) : Ret := ⟨.tup [.nils, .bool false], []⟩
def spec_CircleBodies_mk1 (p : List Body) : Ret := ⟨.tup [.own 0, .bool true], [.typed 56 .body p]⟩
def spec_CircleBodies_mk : (Unit) ⊕ (List Body) → Ret := fun v => match v with
  | (.inl p) => spec_CircleBodies_mk0 p
  | (.inr p) => spec_CircleBodies_mk1 p
def spec_CircleBodies_forms (v : (Unit) ⊕ (List Body)) : DT Ret := .ask (isL v) (.leaf (spec_CircleBodies_mk0 (leftD v))) (.leaf (spec_CircleBodies_mk1 (rightD v)))
theorem spec_CircleBodies_forms_get : ∀ v, (spec_CircleBodies_forms v).get = some (spec_CircleBodies_mk v) := by
  intro v
  rcases v with v | v <;> rfl
def spec_CircleBodies_c : Con := fun args => match args with
  | [.flt .f32 a0, .flt .f32 a1, .flt .f32 a2] => some (.need (spec_CircleBodies_need a0 a1 a2) (spec_CircleBodies_forms (spec_CircleBodies a0 a1 a2)))
  | _ => none
set_option maxRecDepth 100000 in
theorem spec_CircleBodies_ok : FunOK Try.prog 9 spec_CircleBodies_c.fn := by
  refine con_ok (Γ := gam [(22, spec_l02Least_c), (23, spec_l02Above_c), (24, spec_l01Sqrt_c), (25, spec_l02Give_c)]) (gam_cons spec_l02Least_ok (gam_cons spec_l02Above_ok (gam_cons spec_l01Sqrt_ok (gam_cons spec_l02Give_ok (gam_nil))))) tab_ok (by kernel_rfl) Try.func9 (by kernel_rfl) (by kernel_rfl) Try.ntmps9 Try.results9 (loopsOK_none rfl _) 100000 fun args t h => ?_
  unfold spec_CircleBodies_c at h
  split at h
  · rename_i a0 a1 a2
    cases h
    exact ⟨rfl, agree_forms (mk := spec_CircleBodies_mk) (t := spec_CircleBodies_tree a0 a1 a2) (by unfold Agree; kernel_rfl) (fun h => h) (spec_CircleBodies_forms_get _)⟩
  · cases h

/-- loop.example/g01284/spec.CircleOrbit -/
def spec_CircleOrbit_tree (a0 : Nat) : DT (Orbit × Bool) :=
  let x0 := spec_l02Above a0;
  .ask (!x0)
  (
   .leaf ((⟨0, 0, 0, 0, 0, 0⟩ : Orbit), false))
  (
   .leaf ((⟨a0, 0, 0, 0, 0, 0⟩ : Orbit), true))
def spec_CircleOrbit (a0 : Nat) : Orbit × Bool := (spec_CircleOrbit_tree a0).val
def spec_CircleOrbit_mk (p : Orbit × Bool) : Ret := ⟨.tup [.agg [.flt .f32 p.1.Long, .flt .f32 p.1.Round, .flt .f32 p.1.Tilt, .flt .f32 p.1.Node, .flt .f32 p.1.Peri, .flt .f32 p.1.Phase], .bool p.2], []⟩
def spec_CircleOrbit_c : Con := fun args => match args with
  | [.flt .f32 a0] => some (.leaf (spec_CircleOrbit_mk (spec_CircleOrbit a0)))
  | _ => none
set_option maxRecDepth 100000 in
theorem spec_CircleOrbit_ok : FunOK Try.prog 10 spec_CircleOrbit_c.fn := by
  refine con_ok (Γ := gam [(23, spec_l02Above_c)]) (gam_cons spec_l02Above_ok (gam_nil)) tab_ok (by kernel_rfl) Try.func10 (by kernel_rfl) (by kernel_rfl) Try.ntmps10 Try.results10 (loopsOK_none rfl _) 100000 fun args t h => ?_
  unfold spec_CircleOrbit_c at h
  split at h
  · rename_i a0
    cases h
    exact ⟨rfl, agree_tot (mk := spec_CircleOrbit_mk) (t := spec_CircleOrbit_tree a0) (by unfold Agree; kernel_rfl) (by kernel_rfl)⟩
  · cases h

/-- math.IsNaN -/
def math_IsNaN_tree (a0 : Nat) : DT (Bool) :=
  let x0 := fne .f64 a0 a0;
  .leaf x0
def math_IsNaN (a0 : Nat) : Bool := (math_IsNaN_tree a0).val
def math_IsNaN_mk (p : Bool) : Ret := ⟨.bool p, []⟩
def math_IsNaN_c : Con := fun args => match args with
  | [.flt .f64 a0] => some (.leaf (math_IsNaN_mk (math_IsNaN a0)))
  | _ => none
set_option maxRecDepth 100000 in
theorem math_IsNaN_ok : FunOK Try.prog 48 math_IsNaN_c.fn := by
  refine con_ok (Γ := gam []) (gam_nil) tab_ok (by kernel_rfl) Try.func48 (by kernel_rfl) (by kernel_rfl) Try.ntmps48 Try.results48 (loopsOK_none rfl _) 100000 fun args t h => ?_
  unfold math_IsNaN_c at h
  split at h
  · rename_i a0
    cases h
    exact ⟨rfl, agree_tot (mk := math_IsNaN_mk) (t := math_IsNaN_tree a0) (by unfold Agree; kernel_rfl) (by kernel_rfl)⟩
  · cases h

/-- math.Abs -/
def math_Abs_tree (a0 : Nat) : DT (Nat) :=
  .ask ((isNaN .f64 a0))
  (
   .leaf 9221120237041090560)
  (
   let x0 := IntKind.wrap .u64 (BitVec.ofInt (IntKind.bits .u64) ((a0 : Nat) : Int) &&& ~~~ BitVec.ofInt (IntKind.bits .u64) 9223372036854775808).toNat;
   let x1 := canon .f64 (Int.toNat x0);
   .leaf x1)
def math_Abs (a0 : Nat) : Nat := (math_Abs_tree a0).val
def math_Abs_mk (p : Nat) : Ret := ⟨.flt .f64 p, []⟩
def math_Abs_c : Con := fun args => match args with
  | [.flt .f64 a0] => some (.leaf (math_Abs_mk (math_Abs a0)))
  | _ => none
set_option maxRecDepth 100000 in
theorem math_Abs_ok : FunOK Try.prog 53 math_Abs_c.fn := by
  refine con_ok (Γ := gam [(57, math_Float64bits_c), (56, math_Float64frombits_c)]) (gam_cons math_Float64bits_ok (gam_cons math_Float64frombits_ok (gam_nil))) tab_ok (by kernel_rfl) Try.func53 (by kernel_rfl) (by kernel_rfl) Try.ntmps53 Try.results53 (loopsOK_none rfl _) 100000 fun args t h => ?_
  unfold math_Abs_c at h
  split at h
  · rename_i a0
    cases h
    exact ⟨rfl, agree_tot (mk := math_Abs_mk) (t := math_Abs_tree a0) (by unfold Agree; kernel_rfl) (by kernel_rfl)⟩
  · cases h

/-- math.IsInf -/
def math_IsInf_tree (a0 : Nat) (a1 : Int) : DT (Bool) :=
  let x0 := (a1 == 0);
  .ask x0
  (
   let x1 := math_Abs a0;
   let x2 := fgt .f64 x1 9218868437227405311;
   .leaf x2)
  (
   let x1 := decide (a1 < 0);
   .ask x1
   (
    let x2 := fneg .f64 a0;
    let x3 := fgt .f64 x2 9218868437227405311;
    .leaf x3)
   (
    let x2 := fgt .f64 a0 9218868437227405311;
    .leaf x2))
def math_IsInf (a0 : Nat) (a1 : Int) : Bool := (math_IsInf_tree a0 a1).val
def math_IsInf_mk (p : Bool) : Ret := ⟨.bool p, []⟩
def math_IsInf_c : Con := fun args => match args with
  | [.flt .f64 a0, .int .i64 a1] => some (.leaf (math_IsInf_mk (math_IsInf a0 a1)))
  | _ => none
set_option maxRecDepth 100000 in
theorem math_IsInf_ok : FunOK Try.prog 49 math_IsInf_c.fn := by
  refine con_ok (Γ := gam [(53, math_Abs_c)]) (gam_cons math_Abs_ok (gam_nil)) tab_ok (by kernel_rfl) Try.func49 (by kernel_rfl) (by kernel_rfl) Try.ntmps49 Try.results49 (loopsOK_none rfl _) 100000 fun args t h => ?_
  unfold math_IsInf_c at h
  split at h
  · rename_i a0 a1
    cases h
    exact ⟨rfl, agree_tot (mk := math_IsInf_mk) (t := math_IsInf_tree a0 a1) (by unfold Agree; kernel_rfl) (by kernel_rfl)⟩
  · cases h

/-- loop.example/g01284/impl.finite -/
def impl_finite_tree (a0 : Nat) : DT (Bool) :=
  let x0 := math_IsNaN a0;
  .ask (!x0)
  (
   let x1 := math_IsInf a0 0;
   .leaf (!x1))
  (
   .leaf false)
def impl_finite (a0 : Nat) : Bool := (impl_finite_tree a0).val
def impl_finite_mk (p : Bool) : Ret := ⟨.bool p, []⟩
def impl_finite_c : Con := fun args => match args with
  | [.flt .f64 a0] => some (.leaf (impl_finite_mk (impl_finite a0)))
  | _ => none
set_option maxRecDepth 100000 in
theorem impl_finite_ok : FunOK Try.prog 43 impl_finite_c.fn := by
  refine con_ok (Γ := gam [(48, math_IsNaN_c), (49, math_IsInf_c)]) (gam_cons math_IsNaN_ok (gam_cons math_IsInf_ok (gam_nil))) tab_ok (by kernel_rfl) Try.func43 (by kernel_rfl) (by kernel_rfl) Try.ntmps43 Try.results43 (loopsOK_none rfl _) 100000 fun args t h => ?_
  unfold impl_finite_c at h
  split at h
  · rename_i a0
    cases h
    exact ⟨rfl, agree_tot (mk := impl_finite_mk) (t := impl_finite_tree a0) (by unfold Agree; kernel_rfl) (by kernel_rfl)⟩
  · cases h

/-- loop.example/g01284/impl.IsFinite -/
def impl_IsFinite_tree (a0 : Nat) : DT (Bool) :=
  .need ((fconvOk .f32 a0 .f64)) (
  let x0 := fconv .f32 a0 .f64;
  let x1 := impl_finite x0;
  .leaf x1)
def impl_IsFinite (a0 : Nat) : Bool := (impl_IsFinite_tree a0).val
def impl_IsFinite_need (a0 : Nat) : Bool := (impl_IsFinite_tree a0).ok
def impl_IsFinite_mk (p : Bool) : Ret := ⟨.bool p, []⟩
def impl_IsFinite_c : Con := fun args => match args with
  | [.flt .f32 a0] => some (.need (impl_IsFinite_need a0) (.leaf (impl_IsFinite_mk (impl_IsFinite a0))))
  | _ => none
set_option maxRecDepth 100000 in
theorem impl_IsFinite_ok : FunOK Try.prog 38 impl_IsFinite_c.fn := by
  refine con_ok (Γ := gam [(43, impl_finite_c)]) (gam_cons impl_finite_ok (gam_nil)) tab_ok (by kernel_rfl) Try.func38 (by kernel_rfl) (by kernel_rfl) Try.ntmps38 Try.results38 (loopsOK_none rfl _) 100000 fun args t h => ?_
  unfold impl_IsFinite_c at h
  split at h
  · rename_i a0
    cases h
    exact ⟨rfl, agree_need (mk := impl_IsFinite_mk) (t := impl_IsFinite_tree a0) (by unfold Agree; kernel_rfl)⟩
  · cases h

/-- loop.example/g01284/impl.aMass -/
def impl_aMass_tree (a0 : Nat) : DT (Bool) :=
  .need ((impl_IsFinite_need a0)) (
  let x0 := impl_IsFinite a0;
  .ask x0
  (
   let x1 := fge .f32 a0 0;
   .leaf x1)
  (
   .leaf false))
def impl_aMass (a0 : Nat) : Bool := (impl_aMass_tree a0).val
def impl_aMass_need (a0 : Nat) : Bool := (impl_aMass_tree a0).ok
def impl_aMass_mk (p : Bool) : Ret := ⟨.bool p, []⟩
def impl_aMass_c : Con := fun args => match args with
  | [.flt .f32 a0] => some (.need (impl_aMass_need a0) (.leaf (impl_aMass_mk (impl_aMass a0))))
  | _ => none
set_option maxRecDepth 100000 in
theorem impl_aMass_ok : FunOK Try.prog 26 impl_aMass_c.fn := by
  refine con_ok (Γ := gam [(38, impl_IsFinite_c)]) (gam_cons impl_IsFinite_ok (gam_nil)) tab_ok (by kernel_rfl) Try.func26 (by kernel_rfl) (by kernel_rfl) Try.ntmps26 Try.results26 (loopsOK_none rfl _) 100000 fun args t h => ?_
  unfold impl_aMass_c at h
  split at h
  · rename_i a0
    cases h
    exact ⟨rfl, agree_need (mk := impl_aMass_mk) (t := impl_aMass_tree a0) (by unfold Agree; kernel_rfl)⟩
  · cases h

/-- loop.example/g01284/impl.aLength -/
def impl_aLength_tree (a0 : Nat) : DT (Bool) :=
  .need ((impl_IsFinite_need a0)) (
  let x0 := impl_IsFinite a0;
  .ask x0
  (
   let x1 := fgt .f32 a0 0;
   .leaf x1)
  (
   .leaf false))
def impl_aLength (a0 : Nat) : Bool := (impl_aLength_tree a0).val
def impl_aLength_need (a0 : Nat) : Bool := (impl_aLength_tree a0).ok
def impl_aLength_mk (p : Bool) : Ret := ⟨.bool p, []⟩
def impl_aLength_c : Con := fun args => match args with
  | [.flt .f32 a0] => some (.need (impl_aLength_need a0) (.leaf (impl_aLength_mk (impl_aLength a0))))
  | _ => none
set_option maxRecDepth 100000 in
theorem impl_aLength_ok : FunOK Try.prog 27 impl_aLength_c.fn := by
  refine con_ok (Γ := gam [(38, impl_IsFinite_c)]) (gam_cons impl_IsFinite_ok (gam_nil)) tab_ok (by kernel_rfl) Try.func27 (by kernel_rfl) (by kernel_rfl) Try.ntmps27 Try.results27 (loopsOK_none rfl _) 100000 fun args t h => ?_
  unfold impl_aLength_c at h
  split at h
  · rename_i a0
    cases h
    exact ⟨rfl, agree_need (mk := impl_aLength_mk) (t := impl_aLength_tree a0) (by unfold Agree; kernel_rfl)⟩
  · cases h

/-- loop.example/g01284/impl.RootNumber -/
def impl_RootNumber_tree (a0 : Nat) : DT (Nat) :=
  .need ((fconvOk .f32 a0 .f64)) (
  let x0 := fconv .f32 a0 .f64;
  let x1 := math_Sqrt x0;
  .need ((fconvOk .f64 x1 .f32)) (
  let x2 := fconv .f64 x1 .f32;
  .leaf x2))
def impl_RootNumber (a0 : Nat) : Nat := (impl_RootNumber_tree a0).val
def impl_RootNumber_need (a0 : Nat) : Bool := (impl_RootNumber_tree a0).ok
def impl_RootNumber_mk (p : Nat) : Ret := ⟨.flt .f32 p, []⟩
def impl_RootNumber_c : Con := fun args => match args with
  | [.flt .f32 a0] => some (.need (impl_RootNumber_need a0) (.leaf (impl_RootNumber_mk (impl_RootNumber a0))))
  | _ => none
set_option maxRecDepth 100000 in
theorem impl_RootNumber_ok : FunOK Try.prog 28 impl_RootNumber_c.fn := by
  refine con_ok (Γ := gam [(36, math_Sqrt_c)]) (gam_cons math_Sqrt_ok (gam_nil)) tab_ok (by kernel_rfl) Try.func28 (by kernel_rfl) (by kernel_rfl) Try.ntmps28 Try.results28 (loopsOK_none rfl _) 100000 fun args t h => ?_
  unfold impl_RootNumber_c at h
  split at h
  · rename_i a0
    cases h
    exact ⟨rfl, agree_need (mk := impl_RootNumber_mk) (t := impl_RootNumber_tree a0) (by unfold Agree; kernel_rfl)⟩
  · cases h

/-- (loop.example/g01284/impl.Vector).numbers -/
def impl_Vector_numbers_tree (a0 : Vec) : DT (List Nat) :=
  .leaf ([a0.X, a0.Y, a0.Z])
def impl_Vector_numbers (a0 : Vec) : List Nat := (impl_Vector_numbers_tree a0).val
def impl_Vector_numbers_mk (p : List Nat) : Ret := ⟨.own 0, [.typed 23 (.flt .f32) p]⟩
def impl_Vector_numbers_c : Con := fun args => match args with
  | [.agg [.flt .f32 a0_0, .flt .f32 a0_1, .flt .f32 a0_2]] => some (.leaf (impl_Vector_numbers_mk (impl_Vector_numbers (⟨a0_0, a0_1, a0_2⟩ : Vec))))
  | _ => none
set_option maxRecDepth 100000 in
theorem impl_Vector_numbers_ok : FunOK Try.prog 52 impl_Vector_numbers_c.fn := by
  refine con_ok (Γ := gam []) (gam_nil) tab_ok (by kernel_rfl) Try.func52 (by kernel_rfl) (by kernel_rfl) Try.ntmps52 Try.results52 (loopsOK_none rfl _) 100000 fun args t h => ?_
  unfold impl_Vector_numbers_c at h
  split at h
  · rename_i a0_0 a0_1 a0_2
    cases h
    exact ⟨rfl, agree_tot (mk := impl_Vector_numbers_mk) (t := impl_Vector_numbers_tree (⟨a0_0, a0_1, a0_2⟩ : Vec)) (by unfold Agree; kernel_rfl) (by kernel_rfl)⟩
  · cases h

/-- loop.example/g01284/impl.areFinite$1 -/
def impl_areFinite_1_tree (a0 : Nat) : DT (Bool) :=
  .need ((impl_IsFinite_need a0)) (
  let x0 := impl_IsFinite a0;
  .leaf (!x0))
def impl_areFinite_1 (a0 : Nat) : Bool := (impl_areFinite_1_tree a0).val
def impl_areFinite_1_need (a0 : Nat) : Bool := (impl_areFinite_1_tree a0).ok
def impl_areFinite_1_mk (p : Bool) : Ret := ⟨.bool p, []⟩
def impl_areFinite_1_c : Con := fun args => match args with
  | [.flt .f32 a0] => some (.need (impl_areFinite_1_need a0) (.leaf (impl_areFinite_1_mk (impl_areFinite_1 a0))))
  | _ => none
set_option maxRecDepth 100000 in
theorem impl_areFinite_1_ok : FunOK Try.prog 55 impl_areFinite_1_c.fn := by
  refine con_ok (Γ := gam [(38, impl_IsFinite_c)]) (gam_cons impl_IsFinite_ok (gam_nil)) tab_ok (by kernel_rfl) Try.func55 (by kernel_rfl) (by kernel_rfl) Try.ntmps55 Try.results55 (loopsOK_none rfl _) 100000 fun args t h => ?_
  unfold impl_areFinite_1_c at h
  split at h
  · rename_i a0
    cases h
    exact ⟨rfl, agree_need (mk := impl_areFinite_1_mk) (t := impl_areFinite_1_tree a0) (by unfold Agree; kernel_rfl)⟩
  · cases h

/-- a loop of slices_IndexFunc___float32_float32__impl_areFinite_1 -/
def slices_IndexFunc___float32_float32__impl_areFinite_1_loop0_step (p : List Nat × Int) (s : Int) : Round (Int) ((Int) ⊕ (Unit)) :=
  let x0 := decide (s < p.2);
  .ask x0
  (
   .need ((decide (0 ≤ s) && decide (s < ((List.length p.1 : Nat) : Int)))) (
   let x1 := List.getD p.1 (Int.toNat s) default;
   .need ((impl_areFinite_1_need x1)) (
   let x2 := impl_areFinite_1 x1;
   .ask x2
   (
    .leaf (.inr (.inl s), []))
   (
    let x3 := IntKind.wrap .i64 (s + 1);
    .leaf (.inl x3, [])))))
  (
   .leaf (.inr (.inr ()), []))
def slices_IndexFunc___float32_float32__impl_areFinite_1_loop0_L (p : List Nat × Int) : LoopS (Int) ((Int) ⊕ (Unit)) := { tl := fun s => [.vslc 1 (.flt .f32) p.1, .func (.func 55) [] [], .junk, .junk, .junk, .junk, .junk, .int .i64 p.2, .int .i64 s], hl := fun s => [], ex := fun r => match r with | .inl r => .ret | .inr r => .exit 0, otl := fun r => match r with | .inl r => [.junk, .junk, .junk, .junk, .int .i64 r] | .inr r => [.junk], ohl := fun r => match r with | .inl r => [] | .inr r => [] }
def slices_IndexFunc___float32_float32__impl_areFinite_1_loop0_ext : St → Option ((List Nat × Int) × (Int) × List Nat) := fun S => match (S.tm 0).unK, (S.tm 1).unK, (S.tm 7).unK, (S.tm 8).unK with
  | .vslc 1 (.flt .f32) q0, .func (.func 55) [] [], .int .i64 q1, .int .i64 q2 => some ((q0, q1), q2, [])
  | _, _, _, _ => none
def slices_IndexFunc___float32_float32__impl_areFinite_1_loop0_post (p : List Nat × Int) (r : (Int) ⊕ (Unit)) : DT (Ex × St) := .ask (isL r) (.leaf (.ret, LSt [.junk, .junk, .junk, .junk, .int .i64 ((leftD r))] [])) (.leaf (.exit 0, LSt [.junk] []))
def slices_IndexFunc___float32_float32__impl_areFinite_1_loop0 (p : List Nat × Int) (s : Int) : (Int) ⊕ (Unit) := loopVal (slices_IndexFunc___float32_float32__impl_areFinite_1_loop0_step p) s
def slices_IndexFunc___float32_float32__impl_areFinite_1_loop0_ends (p : List Nat × Int) (s : Int) : Bool := loopEnds (slices_IndexFunc___float32_float32__impl_areFinite_1_loop0_step p) s
def slices_IndexFunc___float32_float32__impl_areFinite_1_loop0_F : LoopF := loopF slices_IndexFunc___float32_float32__impl_areFinite_1_loop0_step slices_IndexFunc___float32_float32__impl_areFinite_1_loop0_ext slices_IndexFunc___float32_float32__impl_areFinite_1_loop0_post
theorem slices_IndexFunc___float32_float32__impl_areFinite_1_loop0_hext : ∀ S p s fl, slices_IndexFunc___float32_float32__impl_areFinite_1_loop0_ext S = some (p, s, fl) → Norm S fl ((slices_IndexFunc___float32_float32__impl_areFinite_1_loop0_L p).tl s) ((slices_IndexFunc___float32_float32__impl_areFinite_1_loop0_L p).hl s) (slices_IndexFunc___float32_float32__impl_areFinite_1_loop0_L p).gl := by
  intro S p s fl h
  unfold slices_IndexFunc___float32_float32__impl_areFinite_1_loop0_ext at h
  (repeat' split at h) <;> first
    | (cases h; constructor <;> simp_all [slices_IndexFunc___float32_float32__impl_areFinite_1_loop0_L, keepT, keepH, rens, renH, PV.ren, Blk.ren, fOf, lget, nodup, natIn, lenEq, gtm, PV.unK])
    | cases h
theorem slices_IndexFunc___float32_float32__impl_areFinite_1_loop0_hpost : ∀ p r e S', (slices_IndexFunc___float32_float32__impl_areFinite_1_loop0_post p r).get = some (e, S') → e = (slices_IndexFunc___float32_float32__impl_areFinite_1_loop0_L p).ex r ∧ S' = LSt ((slices_IndexFunc___float32_float32__impl_areFinite_1_loop0_L p).otl r) ((slices_IndexFunc___float32_float32__impl_areFinite_1_loop0_L p).ohl r) ((slices_IndexFunc___float32_float32__impl_areFinite_1_loop0_L p).ogl r) := by
  intro p r e S' h
  unfold slices_IndexFunc___float32_float32__impl_areFinite_1_loop0_post at h
  cases r <;> (simp only [isL, DT.get, Option.some.injEq, Prod.mk.injEq] at h; exact ⟨h.1.symm, h.2.symm⟩)

def slices_IndexFunc___float32_float32__impl_areFinite_1_loops : Nat → Option LoopF := loopTab [(2, slices_IndexFunc___float32_float32__impl_areFinite_1_loop0_F)]
set_option maxRecDepth 100000 in
theorem slices_IndexFunc___float32_float32__impl_areFinite_1_l0 : LoopOK Try.prog ⟨gam [(55, impl_areFinite_1_c)], tab, 19, slices_IndexFunc___float32_float32__impl_areFinite_1_loops⟩ (lp Try.f58 0) :=
  loopOK_some (F := slices_IndexFunc___float32_float32__impl_areFinite_1_loop0_F) (by kernel_rfl) (loopF_ok (E := ⟨gam [(55, impl_areFinite_1_c)], tab, 19, slices_IndexFunc___float32_float32__impl_areFinite_1_loops⟩) ⟨gam_cons impl_areFinite_1_ok (gam_nil), tab_ok, by kernel_rfl⟩ (fuel := 100000) (loopsOK_list (l := []) (by kernel_rfl) trivial) (L := slices_IndexFunc___float32_float32__impl_areFinite_1_loop0_L) (fun p s => by unfold AgreeL; exact ⟨by kernel_rfl, by kernel_rfl⟩) (fun _ r h => by cases r <;> exact Ex.noConfusion h) slices_IndexFunc___float32_float32__impl_areFinite_1_loop0_hext slices_IndexFunc___float32_float32__impl_areFinite_1_loop0_hpost)
/-- slices.IndexFunc[[]float32,float32] -/
def slices_IndexFunc___float32_float32__impl_areFinite_1_tree (a0 : List Nat) : DT (Int) :=
  let x0 := ((List.length a0 : Nat) : Int);
  .need ((slices_IndexFunc___float32_float32__impl_areFinite_1_loop0_ends (a0, x0) 0)) (
  let x1 := slices_IndexFunc___float32_float32__impl_areFinite_1_loop0 (a0, x0) 0;
  .ask ((isL x1))
  (
   .leaf ((leftD x1)))
  (
   .leaf (-1)))
def slices_IndexFunc___float32_float32__impl_areFinite_1 (a0 : List Nat) : Int := (slices_IndexFunc___float32_float32__impl_areFinite_1_tree a0).val
def slices_IndexFunc___float32_float32__impl_areFinite_1_need (a0 : List Nat) : Bool := (slices_IndexFunc___float32_float32__impl_areFinite_1_tree a0).ok
def slices_IndexFunc___float32_float32__impl_areFinite_1_mk (p : Int) : Ret := ⟨.int .i64 p, []⟩
def slices_IndexFunc___float32_float32__impl_areFinite_1_c0 : Con := fun args => match args with
  | [.vslc 1 (.flt .f32) a0, .func (.func 55) [] []] => some (.need (slices_IndexFunc___float32_float32__impl_areFinite_1_need a0) (.leaf (slices_IndexFunc___float32_float32__impl_areFinite_1_mk (slices_IndexFunc___float32_float32__impl_areFinite_1 a0))))
  | _ => none
set_option maxRecDepth 100000 in
theorem slices_IndexFunc___float32_float32__impl_areFinite_1_ok0 : FunOK Try.prog 58 slices_IndexFunc___float32_float32__impl_areFinite_1_c0.fn := by
  refine con_ok (Γ := gam [(55, impl_areFinite_1_c)]) (gam_cons impl_areFinite_1_ok (gam_nil)) tab_ok (by kernel_rfl) Try.func58 (by kernel_rfl) (by kernel_rfl) Try.ntmps58 Try.results58 (loops := slices_IndexFunc___float32_float32__impl_areFinite_1_loops) (loopsOK_list (l := [lp Try.f58 0]) (by kernel_rfl) ⟨slices_IndexFunc___float32_float32__impl_areFinite_1_l0, trivial⟩) 100000 fun args t h => ?_
  unfold slices_IndexFunc___float32_float32__impl_areFinite_1_c0 at h
  split at h
  · rename_i a0
    cases h
    exact ⟨rfl, agree_need (mk := slices_IndexFunc___float32_float32__impl_areFinite_1_mk) (t := slices_IndexFunc___float32_float32__impl_areFinite_1_tree a0) (by unfold Agree; kernel_rfl)⟩
  · cases h
def slices_IndexFunc___float32_float32__impl_areFinite_1_c : Con := fun args => slices_IndexFunc___float32_float32__impl_areFinite_1_c0 (norms 0 [.slc (.flt .f32), .none] args)
set_option maxRecDepth 100000 in
theorem slices_IndexFunc___float32_float32__impl_areFinite_1_ok : FunOK Try.prog 58 slices_IndexFunc___float32_float32__impl_areFinite_1_c.fn := con_norm [.slc (.flt .f32), .none] slices_IndexFunc___float32_float32__impl_areFinite_1_ok0

/-- slices.ContainsFunc[[]float32,float32] -/
def slices_ContainsFunc___float32_float32__impl_areFinite_1_tree (a0 : List Nat) : DT (Bool) :=
  .need ((slices_IndexFunc___float32_float32__impl_areFinite_1_need a0 )) (
  let x0 := slices_IndexFunc___float32_float32__impl_areFinite_1 a0 ;
  let x1 := decide (x0 ≥ 0);
  .leaf x1)
def slices_ContainsFunc___float32_float32__impl_areFinite_1 (a0 : List Nat) : Bool := (slices_ContainsFunc___float32_float32__impl_areFinite_1_tree a0).val
def slices_ContainsFunc___float32_float32__impl_areFinite_1_need (a0 : List Nat) : Bool := (slices_ContainsFunc___float32_float32__impl_areFinite_1_tree a0).ok
def slices_ContainsFunc___float32_float32__impl_areFinite_1_mk (p : Bool) : Ret := ⟨.bool p, []⟩
def slices_ContainsFunc___float32_float32__impl_areFinite_1_c0 : Con := fun args => match args with
  | [.vslc 1 (.flt .f32) a0, .func (.func 55) [] []] => some (.need (slices_ContainsFunc___float32_float32__impl_areFinite_1_need a0) (.leaf (slices_ContainsFunc___float32_float32__impl_areFinite_1_mk (slices_ContainsFunc___float32_float32__impl_areFinite_1 a0))))
  | _ => none
set_option maxRecDepth 100000 in
theorem slices_ContainsFunc___float32_float32__impl_areFinite_1_ok0 : FunOK Try.prog 54 slices_ContainsFunc___float32_float32__impl_areFinite_1_c0.fn := by
  refine con_ok (Γ := gam [(58, slices_IndexFunc___float32_float32__impl_areFinite_1_c)]) (gam_cons slices_IndexFunc___float32_float32__impl_areFinite_1_ok (gam_nil)) tab_ok (by kernel_rfl) Try.func54 (by kernel_rfl) (by kernel_rfl) Try.ntmps54 Try.results54 (loopsOK_none rfl _) 100000 fun args t h => ?_
  unfold slices_ContainsFunc___float32_float32__impl_areFinite_1_c0 at h
  split at h
  · rename_i a0
    cases h
    exact ⟨rfl, agree_need (mk := slices_ContainsFunc___float32_float32__impl_areFinite_1_mk) (t := slices_ContainsFunc___float32_float32__impl_areFinite_1_tree a0) (by unfold Agree; kernel_rfl)⟩
  · cases h
def slices_ContainsFunc___float32_float32__impl_areFinite_1_c : Con := fun args => slices_ContainsFunc___float32_float32__impl_areFinite_1_c0 (norms 0 [.slc (.flt .f32), .none] args)
set_option maxRecDepth 100000 in
theorem slices_ContainsFunc___float32_float32__impl_areFinite_1_ok : FunOK Try.prog 54 slices_ContainsFunc___float32_float32__impl_areFinite_1_c.fn := con_norm [.slc (.flt .f32), .none] slices_ContainsFunc___float32_float32__impl_areFinite_1_ok0

/-- loop.example/g01284/impl.areFinite -/
def impl_areFinite_tree (a0 : List Nat) : DT (Bool) :=
  .need ((slices_ContainsFunc___float32_float32__impl_areFinite_1_need a0 )) (
  let x0 := slices_ContainsFunc___float32_float32__impl_areFinite_1 a0 ;
  .leaf (!x0))
def impl_areFinite (a0 : List Nat) : Bool := (impl_areFinite_tree a0).val
def impl_areFinite_need (a0 : List Nat) : Bool := (impl_areFinite_tree a0).ok
def impl_areFinite_mk (p : Bool) : Ret := ⟨.bool p, []⟩
def impl_areFinite_c0 : Con := fun args => match args with
  | [.vslc 1 (.flt .f32) a0] => some (.need (impl_areFinite_need a0) (.leaf (impl_areFinite_mk (impl_areFinite a0))))
  | _ => none
set_option maxRecDepth 100000 in
theorem impl_areFinite_ok0 : FunOK Try.prog 51 impl_areFinite_c0.fn := by
  refine con_ok (Γ := gam [(54, slices_ContainsFunc___float32_float32__impl_areFinite_1_c)]) (gam_cons slices_ContainsFunc___float32_float32__impl_areFinite_1_ok (gam_nil)) tab_ok (by kernel_rfl) Try.func51 (by kernel_rfl) (by kernel_rfl) Try.ntmps51 Try.results51 (loopsOK_none rfl _) 100000 fun args t h => ?_
  unfold impl_areFinite_c0 at h
  split at h
  · rename_i a0
    cases h
    exact ⟨rfl, agree_need (mk := impl_areFinite_mk) (t := impl_areFinite_tree a0) (by unfold Agree; kernel_rfl)⟩
  · cases h
def impl_areFinite_c : Con := fun args => impl_areFinite_c0 (norms 0 [.slc (.flt .f32)] args)
set_option maxRecDepth 100000 in
theorem impl_areFinite_ok : FunOK Try.prog 51 impl_areFinite_c.fn := con_norm [.slc (.flt .f32)] impl_areFinite_ok0

/-- loop.example/g01284/impl.isFiniteVector -/
def impl_isFiniteVector_tree (a0 : Vec) : DT (Bool) :=
  let x0 := impl_Vector_numbers (⟨a0.X, a0.Y, a0.Z⟩ : Vec);
  .need ((impl_areFinite_need x0)) (
  let x1 := impl_areFinite x0;
  .leaf x1)
def impl_isFiniteVector (a0 : Vec) : Bool := (impl_isFiniteVector_tree a0).val
def impl_isFiniteVector_need (a0 : Vec) : Bool := (impl_isFiniteVector_tree a0).ok
def impl_isFiniteVector_mk (p : Bool) : Ret := ⟨.bool p, []⟩
def impl_isFiniteVector_c : Con := fun args => match args with
  | [.agg [.flt .f32 a0_0, .flt .f32 a0_1, .flt .f32 a0_2]] => some (.need (impl_isFiniteVector_need (⟨a0_0, a0_1, a0_2⟩ : Vec)) (.leaf (impl_isFiniteVector_mk (impl_isFiniteVector (⟨a0_0, a0_1, a0_2⟩ : Vec)))))
  | _ => none
set_option maxRecDepth 100000 in
theorem impl_isFiniteVector_ok : FunOK Try.prog 46 impl_isFiniteVector_c.fn := by
  refine con_ok (Γ := gam [(52, impl_Vector_numbers_c), (51, impl_areFinite_c)]) (gam_cons impl_Vector_numbers_ok (gam_cons impl_areFinite_ok (gam_nil))) tab_ok (by kernel_rfl) Try.func46 (by kernel_rfl) (by kernel_rfl) Try.ntmps46 Try.results46 (loopsOK_none rfl _) 100000 fun args t h => ?_
  unfold impl_isFiniteVector_c at h
  split at h
  · rename_i a0_0 a0_1 a0_2
    cases h
    exact ⟨rfl, agree_need (mk := impl_isFiniteVector_mk) (t := impl_isFiniteVector_tree (⟨a0_0, a0_1, a0_2⟩ : Vec)) (by unfold Agree; kernel_rfl)⟩
  · cases h

/-- loop.example/g01284/impl.AreBodies$1 -/
def impl_AreBodies_1_tree (a0 : Body) : DT (Bool) :=
  .need ((impl_isFiniteVector_need (⟨a0.At.X, a0.At.Y, a0.At.Z⟩ : Vec))) (
  let x0 := impl_isFiniteVector (⟨a0.At.X, a0.At.Y, a0.At.Z⟩ : Vec);
  .ask (!x0)
  (
   .leaf true)
  (
   .need ((impl_isFiniteVector_need (⟨a0.Speed.X, a0.Speed.Y, a0.Speed.Z⟩ : Vec))) (
   let x1 := impl_isFiniteVector (⟨a0.Speed.X, a0.Speed.Y, a0.Speed.Z⟩ : Vec);
   .ask (!x1)
   (
    .leaf true)
   (
    .need ((impl_IsFinite_need a0.Mass)) (
    let x2 := impl_IsFinite a0.Mass;
    .ask (!x2)
    (
     .leaf true)
    (
     let x3 := flt .f32 a0.Mass 0;
     .leaf x3))))))
def impl_AreBodies_1 (a0 : Body) : Bool := (impl_AreBodies_1_tree a0).val
def impl_AreBodies_1_need (a0 : Body) : Bool := (impl_AreBodies_1_tree a0).ok
def impl_AreBodies_1_mk (p : Bool) : Ret := ⟨.bool p, []⟩
def impl_AreBodies_1_c : Con := fun args => match args with
  | [.agg [.flt .f32 a0_0, .flt .f32 a0_1, .flt .f32 a0_2, .flt .f32 a0_3, .flt .f32 a0_4, .flt .f32 a0_5, .flt .f32 a0_6]] => some (.need (impl_AreBodies_1_need (⟨⟨a0_0, a0_1, a0_2⟩, ⟨a0_3, a0_4, a0_5⟩, a0_6⟩ : Body)) (.leaf (impl_AreBodies_1_mk (impl_AreBodies_1 (⟨⟨a0_0, a0_1, a0_2⟩, ⟨a0_3, a0_4, a0_5⟩, a0_6⟩ : Body)))))
  | _ => none
set_option maxRecDepth 100000 in
theorem impl_AreBodies_1_ok : FunOK Try.prog 45 impl_AreBodies_1_c.fn := by
  refine con_ok (Γ := gam [(46, impl_isFiniteVector_c), (38, impl_IsFinite_c)]) (gam_cons impl_isFiniteVector_ok (gam_cons impl_IsFinite_ok (gam_nil))) tab_ok (by kernel_rfl) Try.func45 (by kernel_rfl) (by kernel_rfl) Try.ntmps45 Try.results45 (loopsOK_none rfl _) 100000 fun args t h => ?_
  unfold impl_AreBodies_1_c at h
  split at h
  · rename_i a0_0 a0_1 a0_2 a0_3 a0_4 a0_5 a0_6
    cases h
    exact ⟨rfl, agree_need (mk := impl_AreBodies_1_mk) (t := impl_AreBodies_1_tree (⟨⟨a0_0, a0_1, a0_2⟩, ⟨a0_3, a0_4, a0_5⟩, a0_6⟩ : Body)) (by unfold Agree; kernel_rfl)⟩
  · cases h

/-- a loop of slices_IndexFunc___impl_Body_impl_Body__impl_AreBodies_1 -/
def slices_IndexFunc___impl_Body_impl_Body__impl_AreBodies_1_loop0_step (p : List Body × Int) (s : Int) : Round (Int) ((Int) ⊕ (Unit)) :=
  let x0 := decide (s < p.2);
  .ask x0
  (
   .need ((decide (0 ≤ s) && decide (s < ((List.length p.1 : Nat) : Int)))) (
   let x1 := List.getD p.1 (Int.toNat s) default;
   .need ((impl_AreBodies_1_need (⟨⟨x1.At.X, x1.At.Y, x1.At.Z⟩, ⟨x1.Speed.X, x1.Speed.Y, x1.Speed.Z⟩, x1.Mass⟩ : Body))) (
   let x2 := impl_AreBodies_1 (⟨⟨x1.At.X, x1.At.Y, x1.At.Z⟩, ⟨x1.Speed.X, x1.Speed.Y, x1.Speed.Z⟩, x1.Mass⟩ : Body);
   .ask x2
   (
    .leaf (.inr (.inl s), []))
   (
    let x3 := IntKind.wrap .i64 (s + 1);
    .leaf (.inl x3, [])))))
  (
   .leaf (.inr (.inr ()), []))
def slices_IndexFunc___impl_Body_impl_Body__impl_AreBodies_1_loop0_L (p : List Body × Int) : LoopS (Int) ((Int) ⊕ (Unit)) := { tl := fun s => [.vslc 1 .body p.1, .func (.func 45) [] [], .junk, .junk, .junk, .junk, .junk, .int .i64 p.2, .int .i64 s], hl := fun s => [], ex := fun r => match r with | .inl r => .ret | .inr r => .exit 0, otl := fun r => match r with | .inl r => [.junk, .junk, .junk, .junk, .int .i64 r] | .inr r => [.junk], ohl := fun r => match r with | .inl r => [] | .inr r => [] }
def slices_IndexFunc___impl_Body_impl_Body__impl_AreBodies_1_loop0_ext : St → Option ((List Body × Int) × (Int) × List Nat) := fun S => match (S.tm 0).unK, (S.tm 1).unK, (S.tm 7).unK, (S.tm 8).unK with
  | .vslc 1 .body q0, .func (.func 45) [] [], .int .i64 q1, .int .i64 q2 => some ((q0, q1), q2, [])
  | _, _, _, _ => none
def slices_IndexFunc___impl_Body_impl_Body__impl_AreBodies_1_loop0_post (p : List Body × Int) (r : (Int) ⊕ (Unit)) : DT (Ex × St) := .ask (isL r) (.leaf (.ret, LSt [.junk, .junk, .junk, .junk, .int .i64 ((leftD r))] [])) (.leaf (.exit 0, LSt [.junk] []))
def slices_IndexFunc___impl_Body_impl_Body__impl_AreBodies_1_loop0 (p : List Body × Int) (s : Int) : (Int) ⊕ (Unit) := loopVal (slices_IndexFunc___impl_Body_impl_Body__impl_AreBodies_1_loop0_step p) s
def slices_IndexFunc___impl_Body_impl_Body__impl_AreBodies_1_loop0_ends (p : List Body × Int) (s : Int) : Bool := loopEnds (slices_IndexFunc___impl_Body_impl_Body__impl_AreBodies_1_loop0_step p) s
def slices_IndexFunc___impl_Body_impl_Body__impl_AreBodies_1_loop0_F : LoopF := loopF slices_IndexFunc___impl_Body_impl_Body__impl_AreBodies_1_loop0_step slices_IndexFunc___impl_Body_impl_Body__impl_AreBodies_1_loop0_ext slices_IndexFunc___impl_Body_impl_Body__impl_AreBodies_1_loop0_post
theorem slices_IndexFunc___impl_Body_impl_Body__impl_AreBodies_1_loop0_hext : ∀ S p s fl, slices_IndexFunc___impl_Body_impl_Body__impl_AreBodies_1_loop0_ext S = some (p, s, fl) → Norm S fl ((slices_IndexFunc___impl_Body_impl_Body__impl_AreBodies_1_loop0_L p).tl s) ((slices_IndexFunc___impl_Body_impl_Body__impl_AreBodies_1_loop0_L p).hl s) (slices_IndexFunc___impl_Body_impl_Body__impl_AreBodies_1_loop0_L p).gl := by
  intro S p s fl h
  unfold slices_IndexFunc___impl_Body_impl_Body__impl_AreBodies_1_loop0_ext at h
  (repeat' split at h) <;> first
    | (cases h; constructor <;> simp_all [slices_IndexFunc___impl_Body_impl_Body__impl_AreBodies_1_loop0_L, keepT, keepH, rens, renH, PV.ren, Blk.ren, fOf, lget, nodup, natIn, lenEq, gtm, PV.unK])
    | cases h
theorem slices_IndexFunc___impl_Body_impl_Body__impl_AreBodies_1_loop0_hpost : ∀ p r e S', (slices_IndexFunc___impl_Body_impl_Body__impl_AreBodies_1_loop0_post p r).get = some (e, S') → e = (slices_IndexFunc___impl_Body_impl_Body__impl_AreBodies_1_loop0_L p).ex r ∧ S' = LSt ((slices_IndexFunc___impl_Body_impl_Body__impl_AreBodies_1_loop0_L p).otl r) ((slices_IndexFunc___impl_Body_impl_Body__impl_AreBodies_1_loop0_L p).ohl r) ((slices_IndexFunc___impl_Body_impl_Body__impl_AreBodies_1_loop0_L p).ogl r) := by
  intro p r e S' h
  unfold slices_IndexFunc___impl_Body_impl_Body__impl_AreBodies_1_loop0_post at h
  cases r <;> (simp only [isL, DT.get, Option.some.injEq, Prod.mk.injEq] at h; exact ⟨h.1.symm, h.2.symm⟩)

def slices_IndexFunc___impl_Body_impl_Body__impl_AreBodies_1_loops : Nat → Option LoopF := loopTab [(2, slices_IndexFunc___impl_Body_impl_Body__impl_AreBodies_1_loop0_F)]
set_option maxRecDepth 100000 in
theorem slices_IndexFunc___impl_Body_impl_Body__impl_AreBodies_1_l0 : LoopOK Try.prog ⟨gam [(45, impl_AreBodies_1_c)], tab, 19, slices_IndexFunc___impl_Body_impl_Body__impl_AreBodies_1_loops⟩ (lp Try.f50 0) :=
  loopOK_some (F := slices_IndexFunc___impl_Body_impl_Body__impl_AreBodies_1_loop0_F) (by kernel_rfl) (loopF_ok (E := ⟨gam [(45, impl_AreBodies_1_c)], tab, 19, slices_IndexFunc___impl_Body_impl_Body__impl_AreBodies_1_loops⟩) ⟨gam_cons impl_AreBodies_1_ok (gam_nil), tab_ok, by kernel_rfl⟩ (fuel := 100000) (loopsOK_list (l := []) (by kernel_rfl) trivial) (L := slices_IndexFunc___impl_Body_impl_Body__impl_AreBodies_1_loop0_L) (fun p s => by unfold AgreeL; exact ⟨by kernel_rfl, by kernel_rfl⟩) (fun _ r h => by cases r <;> exact Ex.noConfusion h) slices_IndexFunc___impl_Body_impl_Body__impl_AreBodies_1_loop0_hext slices_IndexFunc___impl_Body_impl_Body__impl_AreBodies_1_loop0_hpost)
/-- slices.IndexFunc[[]loop.example/g01284/impl.Body,loop.example/g01284/impl.Body] -/
def slices_IndexFunc___impl_Body_impl_Body__impl_AreBodies_1_tree (a0 : List Body) : DT (Int) :=
  let x0 := ((List.length a0 : Nat) : Int);
  .need ((slices_IndexFunc___impl_Body_impl_Body__impl_AreBodies_1_loop0_ends (a0, x0) 0)) (
  let x1 := slices_IndexFunc___impl_Body_impl_Body__impl_AreBodies_1_loop0 (a0, x0) 0;
  .ask ((isL x1))
  (
   .leaf ((leftD x1)))
  (
   .leaf (-1)))
def slices_IndexFunc___impl_Body_impl_Body__impl_AreBodies_1 (a0 : List Body) : Int := (slices_IndexFunc___impl_Body_impl_Body__impl_AreBodies_1_tree a0).val
def slices_IndexFunc___impl_Body_impl_Body__impl_AreBodies_1_need (a0 : List Body) : Bool := (slices_IndexFunc___impl_Body_impl_Body__impl_AreBodies_1_tree a0).ok
def slices_IndexFunc___impl_Body_impl_Body__impl_AreBodies_1_mk (p : Int) : Ret := ⟨.int .i64 p, []⟩
def slices_IndexFunc___impl_Body_impl_Body__impl_AreBodies_1_c0 : Con := fun args => match args with
  | [.vslc 1 .body a0, .func (.func 45) [] []] => some (.need (slices_IndexFunc___impl_Body_impl_Body__impl_AreBodies_1_need a0) (.leaf (slices_IndexFunc___impl_Body_impl_Body__impl_AreBodies_1_mk (slices_IndexFunc___impl_Body_impl_Body__impl_AreBodies_1 a0))))
  | _ => none
set_option maxRecDepth 100000 in
theorem slices_IndexFunc___impl_Body_impl_Body__impl_AreBodies_1_ok0 : FunOK Try.prog 50 slices_IndexFunc___impl_Body_impl_Body__impl_AreBodies_1_c0.fn := by
  refine con_ok (Γ := gam [(45, impl_AreBodies_1_c)]) (gam_cons impl_AreBodies_1_ok (gam_nil)) tab_ok (by kernel_rfl) Try.func50 (by kernel_rfl) (by kernel_rfl) Try.ntmps50 Try.results50 (loops := slices_IndexFunc___impl_Body_impl_Body__impl_AreBodies_1_loops) (loopsOK_list (l := [lp Try.f50 0]) (by kernel_rfl) ⟨slices_IndexFunc___impl_Body_impl_Body__impl_AreBodies_1_l0, trivial⟩) 100000 fun args t h => ?_
  unfold slices_IndexFunc___impl_Body_impl_Body__impl_AreBodies_1_c0 at h
  split at h
  · rename_i a0
    cases h
    exact ⟨rfl, agree_need (mk := slices_IndexFunc___impl_Body_impl_Body__impl_AreBodies_1_mk) (t := slices_IndexFunc___impl_Body_impl_Body__impl_AreBodies_1_tree a0) (by unfold Agree; kernel_rfl)⟩
  · cases h
def slices_IndexFunc___impl_Body_impl_Body__impl_AreBodies_1_c : Con := fun args => slices_IndexFunc___impl_Body_impl_Body__impl_AreBodies_1_c0 (norms 0 [.slc .body, .none] args)
set_option maxRecDepth 100000 in
theorem slices_IndexFunc___impl_Body_impl_Body__impl_AreBodies_1_ok : FunOK Try.prog 50 slices_IndexFunc___impl_Body_impl_Body__impl_AreBodies_1_c.fn := con_norm [.slc .body, .none] slices_IndexFunc___impl_Body_impl_Body__impl_AreBodies_1_ok0

/-- slices.ContainsFunc[[]loop.example/g01284/impl.Body,loop.example/g01284/impl.Body] -/
def slices_ContainsFunc___impl_Body_impl_Body__impl_AreBodies_1_tree (a0 : List Body) : DT (Bool) :=
  .need ((slices_IndexFunc___impl_Body_impl_Body__impl_AreBodies_1_need a0 )) (
  let x0 := slices_IndexFunc___impl_Body_impl_Body__impl_AreBodies_1 a0 ;
  let x1 := decide (x0 ≥ 0);
  .leaf x1)
def slices_ContainsFunc___impl_Body_impl_Body__impl_AreBodies_1 (a0 : List Body) : Bool := (slices_ContainsFunc___impl_Body_impl_Body__impl_AreBodies_1_tree a0).val
def slices_ContainsFunc___impl_Body_impl_Body__impl_AreBodies_1_need (a0 : List Body) : Bool := (slices_ContainsFunc___impl_Body_impl_Body__impl_AreBodies_1_tree a0).ok
def slices_ContainsFunc___impl_Body_impl_Body__impl_AreBodies_1_mk (p : Bool) : Ret := ⟨.bool p, []⟩
def slices_ContainsFunc___impl_Body_impl_Body__impl_AreBodies_1_c0 : Con := fun args => match args with
  | [.vslc 1 .body a0, .func (.func 45) [] []] => some (.need (slices_ContainsFunc___impl_Body_impl_Body__impl_AreBodies_1_need a0) (.leaf (slices_ContainsFunc___impl_Body_impl_Body__impl_AreBodies_1_mk (slices_ContainsFunc___impl_Body_impl_Body__impl_AreBodies_1 a0))))
  | _ => none
set_option maxRecDepth 100000 in
theorem slices_ContainsFunc___impl_Body_impl_Body__impl_AreBodies_1_ok0 : FunOK Try.prog 44 slices_ContainsFunc___impl_Body_impl_Body__impl_AreBodies_1_c0.fn := by
  refine con_ok (Γ := gam [(50, slices_IndexFunc___impl_Body_impl_Body__impl_AreBodies_1_c)]) (gam_cons slices_IndexFunc___impl_Body_impl_Body__impl_AreBodies_1_ok (gam_nil)) tab_ok (by kernel_rfl) Try.func44 (by kernel_rfl) (by kernel_rfl) Try.ntmps44 Try.results44 (loopsOK_none rfl _) 100000 fun args t h => ?_
  unfold slices_ContainsFunc___impl_Body_impl_Body__impl_AreBodies_1_c0 at h
  split at h
  · rename_i a0
    cases h
    exact ⟨rfl, agree_need (mk := slices_ContainsFunc___impl_Body_impl_Body__impl_AreBodies_1_mk) (t := slices_ContainsFunc___impl_Body_impl_Body__impl_AreBodies_1_tree a0) (by unfold Agree; kernel_rfl)⟩
  · cases h
def slices_ContainsFunc___impl_Body_impl_Body__impl_AreBodies_1_c : Con := fun args => slices_ContainsFunc___impl_Body_impl_Body__impl_AreBodies_1_c0 (norms 0 [.slc .body, .none] args)
set_option maxRecDepth 100000 in
theorem slices_ContainsFunc___impl_Body_impl_Body__impl_AreBodies_1_ok : FunOK Try.prog 44 slices_ContainsFunc___impl_Body_impl_Body__impl_AreBodies_1_c.fn := con_norm [.slc .body, .none] slices_ContainsFunc___impl_Body_impl_Body__impl_AreBodies_1_ok0

/-- loop.example/g01284/impl.AreBodies -/
def impl_AreBodies_tree (a0 : List Body) : DT (Bool) :=
  let x0 := ((List.length a0 : Nat) : Int);
  let x1 := decide (x0 ≤ 16);
  .ask x1
  (
   .need ((slices_ContainsFunc___impl_Body_impl_Body__impl_AreBodies_1_need a0 )) (
   let x2 := slices_ContainsFunc___impl_Body_impl_Body__impl_AreBodies_1 a0 ;
   .leaf (!x2)))
  (
   .leaf false)
def impl_AreBodies (a0 : List Body) : Bool := (impl_AreBodies_tree a0).val
def impl_AreBodies_need (a0 : List Body) : Bool := (impl_AreBodies_tree a0).ok
def impl_AreBodies_mk (p : Bool) : Ret := ⟨.bool p, []⟩
def impl_AreBodies_c0 : Con := fun args => match args with
  | [.vslc 1 .body a0] => some (.need (impl_AreBodies_need a0) (.leaf (impl_AreBodies_mk (impl_AreBodies a0))))
  | _ => none
set_option maxRecDepth 100000 in
theorem impl_AreBodies_ok0 : FunOK Try.prog 39 impl_AreBodies_c0.fn := by
  refine con_ok (Γ := gam [(44, slices_ContainsFunc___impl_Body_impl_Body__impl_AreBodies_1_c)]) (gam_cons slices_ContainsFunc___impl_Body_impl_Body__impl_AreBodies_1_ok (gam_nil)) tab_ok (by kernel_rfl) Try.func39 (by kernel_rfl) (by kernel_rfl) Try.ntmps39 Try.results39 (loopsOK_none rfl _) 100000 fun args t h => ?_
  unfold impl_AreBodies_c0 at h
  split at h
  · rename_i a0
    cases h
    exact ⟨rfl, agree_need (mk := impl_AreBodies_mk) (t := impl_AreBodies_tree a0) (by unfold Agree; kernel_rfl)⟩
  · cases h
def impl_AreBodies_c : Con := fun args => impl_AreBodies_c0 (norms 0 [.slc .body] args)
set_option maxRecDepth 100000 in
theorem impl_AreBodies_ok : FunOK Try.prog 39 impl_AreBodies_c.fn := con_norm [.slc .body] impl_AreBodies_ok0

/-- loop.example/g01284/impl.asBodies -/
def impl_asBodies_tree (a0 : List Body) : DT ((Unit) ⊕ (List Body)) :=
  .need ((impl_AreBodies_need a0)) (
  let x0 := impl_AreBodies a0;
  .ask (!x0)
  (
   .leaf (.inl ()))
  (
   .leaf (.inr a0)))
def impl_asBodies (a0 : List Body) : (Unit) ⊕ (List Body) := (impl_asBodies_tree a0).val
def impl_asBodies_need (a0 : List Body) : Bool := (impl_asBodies_tree a0).ok
def impl_asBodies_mk0 (p : Unit) : Ret := ⟨.tup [.nils, .bool false], []⟩
def impl_asBodies_mk1 (p : List Body) : Ret := ⟨.tup [.vslc 1 .body p, .bool true], []⟩
def impl_asBodies_mk : (Unit) ⊕ (List Body) → Ret := fun v => match v with
  | (.inl p) => impl_asBodies_mk0 p
  | (.inr p) => impl_asBodies_mk1 p
def impl_asBodies_forms (v : (Unit) ⊕ (List Body)) : DT Ret := .ask (isL v) (.leaf (impl_asBodies_mk0 (leftD v))) (.leaf (impl_asBodies_mk1 (rightD v)))
theorem impl_asBodies_forms_get : ∀ v, (impl_asBodies_forms v).get = some (impl_asBodies_mk v) := by
  intro v
  rcases v with v | v <;> rfl
def impl_asBodies_c0 : Con := fun args => match args with
  | [.vslc 1 .body a0] => some (.need (impl_asBodies_need a0) (impl_asBodies_forms (impl_asBodies a0)))
  | _ => none
set_option maxRecDepth 100000 in
theorem impl_asBodies_ok0 : FunOK Try.prog 29 impl_asBodies_c0.fn := by
  refine con_ok (Γ := gam [(39, impl_AreBodies_c)]) (gam_cons impl_AreBodies_ok (gam_nil)) tab_ok (by kernel_rfl) Try.func29 (by kernel_rfl) (by kernel_rfl) Try.ntmps29 Try.results29 (loopsOK_none rfl _) 100000 fun args t h => ?_
  unfold impl_asBodies_c0 at h
  split at h
  · rename_i a0
    cases h
    exact ⟨rfl, agree_forms (mk := impl_asBodies_mk) (t := impl_asBodies_tree a0) (by unfold Agree; kernel_rfl) (fun h => h) (impl_asBodies_forms_get _)⟩
  · cases h
def impl_asBodies_c : Con := fun args => impl_asBodies_c0 (norms 0 [.slc .body] args)
set_option maxRecDepth 100000 in
theorem impl_asBodies_ok : FunOK Try.prog 29 impl_asBodies_c.fn := con_norm [.slc .body] impl_asBodies_ok0

/-- loop.example/g01284/impl.CircleBodies -/
def impl_CircleBodies_tree (a0 : Nat) (a1 : Nat) (a2 : Nat) : DT ((Unit) ⊕ (List Body)) :=
  let x0 := fadd .f32 a0 a1;
  .need ((impl_aMass_need a0)) (
  let x1 := impl_aMass a0;
  .ask (!x1)
  (
   .leaf (.inl ()))
  (
   .need ((impl_aMass_need a1)) (
   let x2 := impl_aMass a1;
   .ask (!x2)
   (
    .leaf (.inl ()))
   (
    .need ((impl_aLength_need a2)) (
    let x3 := impl_aLength a2;
    .ask (!x3)
    (
     .leaf (.inl ()))
    (
     .need ((impl_aLength_need x0)) (
     let x4 := impl_aLength x0;
     .ask (!x4)
     (
      .leaf (.inl ()))
     (
      let x5 := fmul .f32 a2 a2;
      let x6 := fmul .f32 x5 a2;
      let x7 := fdiv .f32 x0 x6;
      .need ((impl_RootNumber_need x7)) (
      let x8 := impl_RootNumber x7;
      let x9 := fmul .f32 a2 a1;
      let x10 := fdiv .f32 x9 x0;
      let x11 := fneg .f32 x10;
      let x12 := fmul .f32 a2 a0;
      let x13 := fdiv .f32 x12 x0;
      let x14 := fmul .f32 x8 x11;
      let x15 := fmul .f32 x8 x13;
      .need ((impl_asBodies_need ([(⟨⟨x11, 0, 0⟩, ⟨0, x14, 0⟩, a0⟩ : Body), (⟨⟨x13, 0, 0⟩, ⟨0, x15, 0⟩, a1⟩ : Body)]))) (
      let x16 := impl_asBodies ([(⟨⟨x11, 0, 0⟩, ⟨0, x14, 0⟩, a0⟩ : Body), (⟨⟨x13, 0, 0⟩, ⟨0, x15, 0⟩, a1⟩ : Body)]);
      .ask ((isL x16))
      (
       .leaf (.inl ()))
      (
       .leaf (.inr ([(⟨⟨x11, 0, 0⟩, ⟨0, x14, 0⟩, a0⟩ : Body), (⟨⟨x13, 0, 0⟩, ⟨0, x15, 0⟩, a1⟩ : Body)])))))))))))))
def impl_CircleBodies (a0 : Nat) (a1 : Nat) (a2 : Nat) : (Unit) ⊕ (List Body) := (impl_CircleBodies_tree a0 a1 a2).val
def impl_CircleBodies_need (a0 : Nat) (a1 : Nat) (a2 : Nat) : Bool := (impl_CircleBodies_tree a0 a1 a2).ok
def impl_CircleBodies_mk0 (p : Unit) : Ret := ⟨.tup [.nils, .bool false], []⟩
def impl_CircleBodies_mk1 (p : List Body) : Ret := ⟨.tup [.own 0, .bool true], [.typed 56 .body p]⟩
def impl_CircleBodies_mk : (Unit) ⊕ (List Body) → Ret := fun v => match v with
  | (.inl p) => impl_CircleBodies_mk0 p
  | (.inr p) => impl_CircleBodies_mk1 p
def impl_CircleBodies_forms (v : (Unit) ⊕ (List Body)) : DT Ret := .ask (isL v) (.leaf (impl_CircleBodies_mk0 (leftD v))) (.leaf (impl_CircleBodies_mk1 (rightD v)))
theorem impl_CircleBodies_forms_get : ∀ v, (impl_CircleBodies_forms v).get = some (impl_CircleBodies_mk v) := by
  intro v
  rcases v with v | v <;> rfl
def impl_CircleBodies_c : Con := fun args => match args with
  | [.flt .f32 a0, .flt .f32 a1, .flt .f32 a2] => some (.need (impl_CircleBodies_need a0 a1 a2) (impl_CircleBodies_forms (impl_CircleBodies a0 a1 a2)))
  | _ => none
set_option maxRecDepth 100000 in
theorem impl_CircleBodies_ok : FunOK Try.prog 11 impl_CircleBodies_c.fn := by
  refine con_ok (Γ := gam [(26, impl_aMass_c), (27, impl_aLength_c), (28, impl_RootNumber_c), (29, impl_asBodies_c)]) (gam_cons impl_aMass_ok (gam_cons impl_aLength_ok (gam_cons impl_RootNumber_ok (gam_cons impl_asBodies_ok (gam_nil))))) tab_ok (by kernel_rfl) Try.func11 (by kernel_rfl) (by kernel_rfl) Try.ntmps11 Try.results11 (loopsOK_none rfl _) 100000 fun args t h => ?_
  unfold impl_CircleBodies_c at h
  split at h
  · rename_i a0 a1 a2
    cases h
    exact ⟨rfl, agree_forms (mk := impl_CircleBodies_mk) (t := impl_CircleBodies_tree a0 a1 a2) (by unfold Agree; kernel_rfl) (fun h => h) (impl_CircleBodies_forms_get _)⟩
  · cases h

/-- loop.example/g01284/laws.sameFloat -/
def laws_sameFloat_tree (a0 : Nat) (a1 : Nat) : DT (Bool) :=
  let x0 := fne .f64 a0 a0;
  .ask x0
  (
   let x1 := fne .f64 a0 a0;
   .ask x1
   (
    let x2 := fne .f64 a1 a1;
    .leaf x2)
   (
    .leaf false))
  (
   let x1 := fne .f64 a1 a1;
   .ask x1
   (
    let x2 := fne .f64 a0 a0;
    .ask x2
    (
     let x3 := fne .f64 a1 a1;
     .leaf x3)
    (
     .leaf false))
   (
    let x2 := feq .f64 a0 0;
    .ask x2
    (
     let x3 := feq .f64 a1 0;
     .ask x3
     (
      let x4 := fdiv .f64 4607182418800017408 a0;
      let x5 := fgt .f64 x4 0;
      let x6 := fdiv .f64 4607182418800017408 a1;
      let x7 := fgt .f64 x6 0;
      let x8 := (x5 == x7);
      .leaf x8)
     (
      let x4 := feq .f64 a0 a1;
      .leaf x4))
    (
     let x3 := feq .f64 a0 a1;
     .leaf x3)))
def laws_sameFloat (a0 : Nat) (a1 : Nat) : Bool := (laws_sameFloat_tree a0 a1).val
def laws_sameFloat_mk (p : Bool) : Ret := ⟨.bool p, []⟩
def laws_sameFloat_c : Con := fun args => match args with
  | [.flt .f64 a0, .flt .f64 a1] => some (.leaf (laws_sameFloat_mk (laws_sameFloat a0 a1)))
  | _ => none
set_option maxRecDepth 100000 in
theorem laws_sameFloat_ok : FunOK Try.prog 15 laws_sameFloat_c.fn := by
  refine con_ok (Γ := gam []) (gam_nil) tab_ok (by kernel_rfl) Try.func15 (by kernel_rfl) (by kernel_rfl) Try.ntmps15 Try.results15 (loopsOK_none rfl _) 100000 fun args t h => ?_
  unfold laws_sameFloat_c at h
  split at h
  · rename_i a0 a1
    cases h
    exact ⟨rfl, agree_tot (mk := laws_sameFloat_mk) (t := laws_sameFloat_tree a0 a1) (by unfold Agree; kernel_rfl) (by kernel_rfl)⟩
  · cases h

/-- loop.example/g01284/laws.eqVector -/
def laws_eqVector_tree (a0 : Vec) (a1 : Vec) : DT (Bool) :=
  .need ((fconvOk .f32 a0.X .f64)) (
  let x0 := fconv .f32 a0.X .f64;
  .need ((fconvOk .f32 a1.X .f64)) (
  let x1 := fconv .f32 a1.X .f64;
  let x2 := laws_sameFloat x0 x1;
  .ask (!x2)
  (
   .leaf false)
  (
   .need ((fconvOk .f32 a0.Y .f64)) (
   let x3 := fconv .f32 a0.Y .f64;
   .need ((fconvOk .f32 a1.Y .f64)) (
   let x4 := fconv .f32 a1.Y .f64;
   let x5 := laws_sameFloat x3 x4;
   .ask (!x5)
   (
    .leaf false)
   (
    .need ((fconvOk .f32 a0.Z .f64)) (
    let x6 := fconv .f32 a0.Z .f64;
    .need ((fconvOk .f32 a1.Z .f64)) (
    let x7 := fconv .f32 a1.Z .f64;
    let x8 := laws_sameFloat x6 x7;
    .ask (!x8)
    (
     .leaf false)
    (
     .leaf true)))))))))
def laws_eqVector (a0 : Vec) (a1 : Vec) : Bool := (laws_eqVector_tree a0 a1).val
def laws_eqVector_need (a0 : Vec) (a1 : Vec) : Bool := (laws_eqVector_tree a0 a1).ok
def laws_eqVector_mk (p : Bool) : Ret := ⟨.bool p, []⟩
def laws_eqVector_c : Con := fun args => match args with
  | [.agg [.flt .f32 a0_0, .flt .f32 a0_1, .flt .f32 a0_2], .agg [.flt .f32 a1_0, .flt .f32 a1_1, .flt .f32 a1_2]] => some (.need (laws_eqVector_need (⟨a0_0, a0_1, a0_2⟩ : Vec) (⟨a1_0, a1_1, a1_2⟩ : Vec)) (.leaf (laws_eqVector_mk (laws_eqVector (⟨a0_0, a0_1, a0_2⟩ : Vec) (⟨a1_0, a1_1, a1_2⟩ : Vec)))))
  | _ => none
set_option maxRecDepth 100000 in
theorem laws_eqVector_ok : FunOK Try.prog 40 laws_eqVector_c.fn := by
  refine con_ok (Γ := gam [(15, laws_sameFloat_c)]) (gam_cons laws_sameFloat_ok (gam_nil)) tab_ok (by kernel_rfl) Try.func40 (by kernel_rfl) (by kernel_rfl) Try.ntmps40 Try.results40 (loopsOK_none rfl _) 100000 fun args t h => ?_
  unfold laws_eqVector_c at h
  split at h
  · rename_i a0_0 a0_1 a0_2 a1_0 a1_1 a1_2
    cases h
    exact ⟨rfl, agree_need (mk := laws_eqVector_mk) (t := laws_eqVector_tree (⟨a0_0, a0_1, a0_2⟩ : Vec) (⟨a1_0, a1_1, a1_2⟩ : Vec)) (by unfold Agree; kernel_rfl)⟩
  · cases h

/-- loop.example/g01284/laws.eqBody -/
def laws_eqBody_tree (a0 : Body) (a1 : Body) : DT (Bool) :=
  .need ((laws_eqVector_need (⟨a0.At.X, a0.At.Y, a0.At.Z⟩ : Vec) (⟨a1.At.X, a1.At.Y, a1.At.Z⟩ : Vec))) (
  let x0 := laws_eqVector (⟨a0.At.X, a0.At.Y, a0.At.Z⟩ : Vec) (⟨a1.At.X, a1.At.Y, a1.At.Z⟩ : Vec);
  .ask (!x0)
  (
   .leaf false)
  (
   .need ((laws_eqVector_need (⟨a0.Speed.X, a0.Speed.Y, a0.Speed.Z⟩ : Vec) (⟨a1.Speed.X, a1.Speed.Y, a1.Speed.Z⟩ : Vec))) (
   let x1 := laws_eqVector (⟨a0.Speed.X, a0.Speed.Y, a0.Speed.Z⟩ : Vec) (⟨a1.Speed.X, a1.Speed.Y, a1.Speed.Z⟩ : Vec);
   .ask (!x1)
   (
    .leaf false)
   (
    .need ((fconvOk .f32 a0.Mass .f64)) (
    let x2 := fconv .f32 a0.Mass .f64;
    .need ((fconvOk .f32 a1.Mass .f64)) (
    let x3 := fconv .f32 a1.Mass .f64;
    let x4 := laws_sameFloat x2 x3;
    .ask (!x4)
    (
     .leaf false)
    (
     .leaf true)))))))
def laws_eqBody (a0 : Body) (a1 : Body) : Bool := (laws_eqBody_tree a0 a1).val
def laws_eqBody_need (a0 : Body) (a1 : Body) : Bool := (laws_eqBody_tree a0 a1).ok
def laws_eqBody_mk (p : Bool) : Ret := ⟨.bool p, []⟩
def laws_eqBody_c : Con := fun args => match args with
  | [.agg [.flt .f32 a0_0, .flt .f32 a0_1, .flt .f32 a0_2, .flt .f32 a0_3, .flt .f32 a0_4, .flt .f32 a0_5, .flt .f32 a0_6], .agg [.flt .f32 a1_0, .flt .f32 a1_1, .flt .f32 a1_2, .flt .f32 a1_3, .flt .f32 a1_4, .flt .f32 a1_5, .flt .f32 a1_6]] => some (.need (laws_eqBody_need (⟨⟨a0_0, a0_1, a0_2⟩, ⟨a0_3, a0_4, a0_5⟩, a0_6⟩ : Body) (⟨⟨a1_0, a1_1, a1_2⟩, ⟨a1_3, a1_4, a1_5⟩, a1_6⟩ : Body)) (.leaf (laws_eqBody_mk (laws_eqBody (⟨⟨a0_0, a0_1, a0_2⟩, ⟨a0_3, a0_4, a0_5⟩, a0_6⟩ : Body) (⟨⟨a1_0, a1_1, a1_2⟩, ⟨a1_3, a1_4, a1_5⟩, a1_6⟩ : Body)))))
  | _ => none
set_option maxRecDepth 100000 in
theorem laws_eqBody_ok : FunOK Try.prog 30 laws_eqBody_c.fn := by
  refine con_ok (Γ := gam [(40, laws_eqVector_c), (15, laws_sameFloat_c)]) (gam_cons laws_eqVector_ok (gam_cons laws_sameFloat_ok (gam_nil))) tab_ok (by kernel_rfl) Try.func30 (by kernel_rfl) (by kernel_rfl) Try.ntmps30 Try.results30 (loopsOK_none rfl _) 100000 fun args t h => ?_
  unfold laws_eqBody_c at h
  split at h
  · rename_i a0_0 a0_1 a0_2 a0_3 a0_4 a0_5 a0_6 a1_0 a1_1 a1_2 a1_3 a1_4 a1_5 a1_6
    cases h
    exact ⟨rfl, agree_need (mk := laws_eqBody_mk) (t := laws_eqBody_tree (⟨⟨a0_0, a0_1, a0_2⟩, ⟨a0_3, a0_4, a0_5⟩, a0_6⟩ : Body) (⟨⟨a1_0, a1_1, a1_2⟩, ⟨a1_3, a1_4, a1_5⟩, a1_6⟩ : Body)) (by unfold Agree; kernel_rfl)⟩
  · cases h

/-- a loop of laws_eqBodyS -/
def laws_eqBodyS_loop0_step (p : List Body × List Body) (s : Int) : Round (Int) ((Unit) ⊕ (Unit)) :=
  let x0 := ((List.length p.1 : Nat) : Int);
  let x1 := decide (s < x0);
  .ask x1
  (
   .need ((decide (0 ≤ s) && decide (s < ((List.length p.1 : Nat) : Int)))) (
   let x2 := List.getD p.1 (Int.toNat s) default;
   .need ((decide (0 ≤ s) && decide (s < ((List.length p.2 : Nat) : Int)))) (
   let x3 := List.getD p.2 (Int.toNat s) default;
   .need ((laws_eqBody_need (⟨⟨x2.At.X, x2.At.Y, x2.At.Z⟩, ⟨x2.Speed.X, x2.Speed.Y, x2.Speed.Z⟩, x2.Mass⟩ : Body) (⟨⟨x3.At.X, x3.At.Y, x3.At.Z⟩, ⟨x3.Speed.X, x3.Speed.Y, x3.Speed.Z⟩, x3.Mass⟩ : Body))) (
   let x4 := laws_eqBody (⟨⟨x2.At.X, x2.At.Y, x2.At.Z⟩, ⟨x2.Speed.X, x2.Speed.Y, x2.Speed.Z⟩, x2.Mass⟩ : Body) (⟨⟨x3.At.X, x3.At.Y, x3.At.Z⟩, ⟨x3.Speed.X, x3.Speed.Y, x3.Speed.Z⟩, x3.Mass⟩ : Body);
   .ask (!x4)
   (
    .leaf (.inr (.inl ()), []))
   (
    let x5 := IntKind.wrap .i64 (s + 1);
    .leaf (.inl x5, []))))))
  (
   .leaf (.inr (.inr ()), []))
def laws_eqBodyS_loop0_L (p : List Body × List Body) : LoopS (Int) ((Unit) ⊕ (Unit)) := { tl := fun s => [.vslc 1 .body p.1, .vslc 2 .body p.2, .junk, .junk, .junk, .int .i64 s], hl := fun s => [], ex := fun r => match r with | .inl r => .ret | .inr r => .exit 0, otl := fun r => match r with | .inl r => [.junk, .junk, .junk, .junk, .bool false] | .inr r => [.junk], ohl := fun r => match r with | .inl r => [] | .inr r => [] }
def laws_eqBodyS_loop0_ext : St → Option ((List Body × List Body) × (Int) × List Nat) := fun S => match (S.tm 0).unK, (S.tm 1).unK, (S.tm 5).unK with
  | .vslc 1 .body q0, .vslc 2 .body q1, .int .i64 q2 => some ((q0, q1), q2, [])
  | _, _, _ => none
def laws_eqBodyS_loop0_post (p : List Body × List Body) (r : (Unit) ⊕ (Unit)) : DT (Ex × St) := .ask (isL r) (.leaf (.ret, LSt [.junk, .junk, .junk, .junk, .bool false] [])) (.leaf (.exit 0, LSt [.junk] []))
def laws_eqBodyS_loop0 (p : List Body × List Body) (s : Int) : (Unit) ⊕ (Unit) := loopVal (laws_eqBodyS_loop0_step p) s
def laws_eqBodyS_loop0_ends (p : List Body × List Body) (s : Int) : Bool := loopEnds (laws_eqBodyS_loop0_step p) s
def laws_eqBodyS_loop0_F : LoopF := loopF laws_eqBodyS_loop0_step laws_eqBodyS_loop0_ext laws_eqBodyS_loop0_post
theorem laws_eqBodyS_loop0_hext : ∀ S p s fl, laws_eqBodyS_loop0_ext S = some (p, s, fl) → Norm S fl ((laws_eqBodyS_loop0_L p).tl s) ((laws_eqBodyS_loop0_L p).hl s) (laws_eqBodyS_loop0_L p).gl := by
  intro S p s fl h
  unfold laws_eqBodyS_loop0_ext at h
  (repeat' split at h) <;> first
    | (cases h; constructor <;> simp_all [laws_eqBodyS_loop0_L, keepT, keepH, rens, renH, PV.ren, Blk.ren, fOf, lget, nodup, natIn, lenEq, gtm, PV.unK])
    | cases h
theorem laws_eqBodyS_loop0_hpost : ∀ p r e S', (laws_eqBodyS_loop0_post p r).get = some (e, S') → e = (laws_eqBodyS_loop0_L p).ex r ∧ S' = LSt ((laws_eqBodyS_loop0_L p).otl r) ((laws_eqBodyS_loop0_L p).ohl r) ((laws_eqBodyS_loop0_L p).ogl r) := by
  intro p r e S' h
  unfold laws_eqBodyS_loop0_post at h
  cases r <;> (simp only [isL, DT.get, Option.some.injEq, Prod.mk.injEq] at h; exact ⟨h.1.symm, h.2.symm⟩)

def laws_eqBodyS_loops : Nat → Option LoopF := loopTab [(4, laws_eqBodyS_loop0_F)]
set_option maxRecDepth 100000 in
theorem laws_eqBodyS_l0 : LoopOK Try.prog ⟨gam [(30, laws_eqBody_c)], tab, 27, laws_eqBodyS_loops⟩ (lp Try.f12 0) :=
  loopOK_some (F := laws_eqBodyS_loop0_F) (by kernel_rfl) (loopF_ok (E := ⟨gam [(30, laws_eqBody_c)], tab, 27, laws_eqBodyS_loops⟩) ⟨gam_cons laws_eqBody_ok (gam_nil), tab_ok, by kernel_rfl⟩ (fuel := 100000) (loopsOK_list (l := []) (by kernel_rfl) trivial) (L := laws_eqBodyS_loop0_L) (fun p s => by unfold AgreeL; exact ⟨by kernel_rfl, by kernel_rfl⟩) (fun _ r h => by cases r <;> exact Ex.noConfusion h) laws_eqBodyS_loop0_hext laws_eqBodyS_loop0_hpost)
/-- loop.example/g01284/laws.eqBodyS -/
def laws_eqBodyS_tree (a0 : List Body) (a1 : List Body) : DT (Bool) :=
  let x0 := ((List.length a0 : Nat) : Int);
  let x1 := ((List.length a1 : Nat) : Int);
  let x2 := (x0 != x1);
  .ask x2
  (
   .leaf false)
  (
   .need ((laws_eqBodyS_loop0_ends (a0, a1) 0)) (
   let x3 := laws_eqBodyS_loop0 (a0, a1) 0;
   .ask ((isL x3))
   (
    .leaf false)
   (
    .leaf true)))
def laws_eqBodyS (a0 : List Body) (a1 : List Body) : Bool := (laws_eqBodyS_tree a0 a1).val
def laws_eqBodyS_need (a0 : List Body) (a1 : List Body) : Bool := (laws_eqBodyS_tree a0 a1).ok
def laws_eqBodyS_mk (p : Bool) : Ret := ⟨.bool p, []⟩
def laws_eqBodyS_c0 : Con := fun args => match args with
  | [.vslc 1 .body a0, .vslc 2 .body a1] => some (.need (laws_eqBodyS_need a0 a1) (.leaf (laws_eqBodyS_mk (laws_eqBodyS a0 a1))))
  | _ => none
set_option maxRecDepth 100000 in
theorem laws_eqBodyS_ok0 : FunOK Try.prog 12 laws_eqBodyS_c0.fn := by
  refine con_ok (Γ := gam [(30, laws_eqBody_c)]) (gam_cons laws_eqBody_ok (gam_nil)) tab_ok (by kernel_rfl) Try.func12 (by kernel_rfl) (by kernel_rfl) Try.ntmps12 Try.results12 (loops := laws_eqBodyS_loops) (loopsOK_list (l := [lp Try.f12 0]) (by kernel_rfl) ⟨laws_eqBodyS_l0, trivial⟩) 100000 fun args t h => ?_
  unfold laws_eqBodyS_c0 at h
  split at h
  · rename_i a0 a1
    cases h
    exact ⟨rfl, agree_need (mk := laws_eqBodyS_mk) (t := laws_eqBodyS_tree a0 a1) (by unfold Agree; kernel_rfl)⟩
  · cases h
def laws_eqBodyS_c : Con := fun args => laws_eqBodyS_c0 (norms 0 [.slc .body, .slc .body] args)
set_option maxRecDepth 100000 in
theorem laws_eqBodyS_ok : FunOK Try.prog 12 laws_eqBodyS_c.fn := con_norm [.slc .body, .slc .body] laws_eqBodyS_ok0

/-- loop.example/g01284/laws.eqBall -/
def laws_eqBall_tree (a0 : Ball) (a1 : Ball) : DT (Bool) :=
  .need ((fconvOk .f32 a0.Mass .f64)) (
  let x0 := fconv .f32 a0.Mass .f64;
  .need ((fconvOk .f32 a1.Mass .f64)) (
  let x1 := fconv .f32 a1.Mass .f64;
  let x2 := laws_sameFloat x0 x1;
  .ask (!x2)
  (
   .leaf false)
  (
   .need ((fconvOk .f32 a0.Radius .f64)) (
   let x3 := fconv .f32 a0.Radius .f64;
   .need ((fconvOk .f32 a1.Radius .f64)) (
   let x4 := fconv .f32 a1.Radius .f64;
   let x5 := laws_sameFloat x3 x4;
   .ask (!x5)
   (
    .leaf false)
   (
    .need ((fconvOk .f32 a0.Spin .f64)) (
    let x6 := fconv .f32 a0.Spin .f64;
    .need ((fconvOk .f32 a1.Spin .f64)) (
    let x7 := fconv .f32 a1.Spin .f64;
    let x8 := laws_sameFloat x6 x7;
    .ask (!x8)
    (
     .leaf false)
    (
     .need ((fconvOk .f32 a0.Start .f64)) (
     let x9 := fconv .f32 a0.Start .f64;
     .need ((fconvOk .f32 a1.Start .f64)) (
     let x10 := fconv .f32 a1.Start .f64;
     let x11 := laws_sameFloat x9 x10;
     .ask (!x11)
     (
      .leaf false)
     (
      .leaf true))))))))))))
def laws_eqBall (a0 : Ball) (a1 : Ball) : Bool := (laws_eqBall_tree a0 a1).val
def laws_eqBall_need (a0 : Ball) (a1 : Ball) : Bool := (laws_eqBall_tree a0 a1).ok
def laws_eqBall_mk (p : Bool) : Ret := ⟨.bool p, []⟩
def laws_eqBall_c : Con := fun args => match args with
  | [.agg [.flt .f32 a0_0, .flt .f32 a0_1, .flt .f32 a0_2, .flt .f32 a0_3], .agg [.flt .f32 a1_0, .flt .f32 a1_1, .flt .f32 a1_2, .flt .f32 a1_3]] => some (.need (laws_eqBall_need (⟨a0_0, a0_1, a0_2, a0_3⟩ : Ball) (⟨a1_0, a1_1, a1_2, a1_3⟩ : Ball)) (.leaf (laws_eqBall_mk (laws_eqBall (⟨a0_0, a0_1, a0_2, a0_3⟩ : Ball) (⟨a1_0, a1_1, a1_2, a1_3⟩ : Ball)))))
  | _ => none
set_option maxRecDepth 100000 in
theorem laws_eqBall_ok : FunOK Try.prog 13 laws_eqBall_c.fn := by
  refine con_ok (Γ := gam [(15, laws_sameFloat_c)]) (gam_cons laws_sameFloat_ok (gam_nil)) tab_ok (by kernel_rfl) Try.func13 (by kernel_rfl) (by kernel_rfl) Try.ntmps13 Try.results13 (loopsOK_none rfl _) 100000 fun args t h => ?_
  unfold laws_eqBall_c at h
  split at h
  · rename_i a0_0 a0_1 a0_2 a0_3 a1_0 a1_1 a1_2 a1_3
    cases h
    exact ⟨rfl, agree_need (mk := laws_eqBall_mk) (t := laws_eqBall_tree (⟨a0_0, a0_1, a0_2, a0_3⟩ : Ball) (⟨a1_0, a1_1, a1_2, a1_3⟩ : Ball)) (by unfold Agree; kernel_rfl)⟩
  · cases h

/-- loop.example/g01284/laws.eqOrbit -/
def laws_eqOrbit_tree (a0 : Orbit) (a1 : Orbit) : DT (Bool) :=
  .need ((fconvOk .f32 a0.Long .f64)) (
  let x0 := fconv .f32 a0.Long .f64;
  .need ((fconvOk .f32 a1.Long .f64)) (
  let x1 := fconv .f32 a1.Long .f64;
  let x2 := laws_sameFloat x0 x1;
  .ask (!x2)
  (
   .leaf false)
  (
   .need ((fconvOk .f32 a0.Round .f64)) (
   let x3 := fconv .f32 a0.Round .f64;
   .need ((fconvOk .f32 a1.Round .f64)) (
   let x4 := fconv .f32 a1.Round .f64;
   let x5 := laws_sameFloat x3 x4;
   .ask (!x5)
   (
    .leaf false)
   (
    .need ((fconvOk .f32 a0.Tilt .f64)) (
    let x6 := fconv .f32 a0.Tilt .f64;
    .need ((fconvOk .f32 a1.Tilt .f64)) (
    let x7 := fconv .f32 a1.Tilt .f64;
    let x8 := laws_sameFloat x6 x7;
    .ask (!x8)
    (
     .leaf false)
    (
     .need ((fconvOk .f32 a0.Node .f64)) (
     let x9 := fconv .f32 a0.Node .f64;
     .need ((fconvOk .f32 a1.Node .f64)) (
     let x10 := fconv .f32 a1.Node .f64;
     let x11 := laws_sameFloat x9 x10;
     .ask (!x11)
     (
      .leaf false)
     (
      .need ((fconvOk .f32 a0.Peri .f64)) (
      let x12 := fconv .f32 a0.Peri .f64;
      .need ((fconvOk .f32 a1.Peri .f64)) (
      let x13 := fconv .f32 a1.Peri .f64;
      let x14 := laws_sameFloat x12 x13;
      .ask (!x14)
      (
       .leaf false)
      (
       .need ((fconvOk .f32 a0.Phase .f64)) (
       let x15 := fconv .f32 a0.Phase .f64;
       .need ((fconvOk .f32 a1.Phase .f64)) (
       let x16 := fconv .f32 a1.Phase .f64;
       let x17 := laws_sameFloat x15 x16;
       .ask (!x17)
       (
        .leaf false)
       (
        .leaf true))))))))))))))))))
def laws_eqOrbit (a0 : Orbit) (a1 : Orbit) : Bool := (laws_eqOrbit_tree a0 a1).val
def laws_eqOrbit_need (a0 : Orbit) (a1 : Orbit) : Bool := (laws_eqOrbit_tree a0 a1).ok
def laws_eqOrbit_mk (p : Bool) : Ret := ⟨.bool p, []⟩
def laws_eqOrbit_c : Con := fun args => match args with
  | [.agg [.flt .f32 a0_0, .flt .f32 a0_1, .flt .f32 a0_2, .flt .f32 a0_3, .flt .f32 a0_4, .flt .f32 a0_5], .agg [.flt .f32 a1_0, .flt .f32 a1_1, .flt .f32 a1_2, .flt .f32 a1_3, .flt .f32 a1_4, .flt .f32 a1_5]] => some (.need (laws_eqOrbit_need (⟨a0_0, a0_1, a0_2, a0_3, a0_4, a0_5⟩ : Orbit) (⟨a1_0, a1_1, a1_2, a1_3, a1_4, a1_5⟩ : Orbit)) (.leaf (laws_eqOrbit_mk (laws_eqOrbit (⟨a0_0, a0_1, a0_2, a0_3, a0_4, a0_5⟩ : Orbit) (⟨a1_0, a1_1, a1_2, a1_3, a1_4, a1_5⟩ : Orbit)))))
  | _ => none
set_option maxRecDepth 100000 in
theorem laws_eqOrbit_ok : FunOK Try.prog 14 laws_eqOrbit_c.fn := by
  refine con_ok (Γ := gam [(15, laws_sameFloat_c)]) (gam_cons laws_sameFloat_ok (gam_nil)) tab_ok (by kernel_rfl) Try.func14 (by kernel_rfl) (by kernel_rfl) Try.ntmps14 Try.results14 (loopsOK_none rfl _) 100000 fun args t h => ?_
  unfold laws_eqOrbit_c at h
  split at h
  · rename_i a0_0 a0_1 a0_2 a0_3 a0_4 a0_5 a1_0 a1_1 a1_2 a1_3 a1_4 a1_5
    cases h
    exact ⟨rfl, agree_need (mk := laws_eqOrbit_mk) (t := laws_eqOrbit_tree (⟨a0_0, a0_1, a0_2, a0_3, a0_4, a0_5⟩ : Orbit) (⟨a1_0, a1_1, a1_2, a1_3, a1_4, a1_5⟩ : Orbit)) (by unfold Agree; kernel_rfl)⟩
  · cases h

/-- loop.example/g01284/laws.sameComplex -/
def laws_sameComplex_tree (a0 : (Nat × Nat)) (a1 : (Nat × Nat)) : DT (Bool) :=
  let x0 := laws_sameFloat a0.1 a1.1;
  .ask x0
  (
   let x1 := laws_sameFloat a0.2 a1.2;
   .leaf x1)
  (
   .leaf false)
def laws_sameComplex (a0 : (Nat × Nat)) (a1 : (Nat × Nat)) : Bool := (laws_sameComplex_tree a0 a1).val
def laws_sameComplex_mk (p : Bool) : Ret := ⟨.bool p, []⟩
def laws_sameComplex_c : Con := fun args => match args with
  | [.cplx .f64 a0r a0i, .cplx .f64 a1r a1i] => some (.leaf (laws_sameComplex_mk (laws_sameComplex (a0r, a0i) (a1r, a1i))))
  | _ => none
set_option maxRecDepth 100000 in
theorem laws_sameComplex_ok : FunOK Try.prog 31 laws_sameComplex_c.fn := by
  refine con_ok (Γ := gam [(15, laws_sameFloat_c)]) (gam_cons laws_sameFloat_ok (gam_nil)) tab_ok (by kernel_rfl) Try.func31 (by kernel_rfl) (by kernel_rfl) Try.ntmps31 Try.results31 (loopsOK_none rfl _) 100000 fun args t h => ?_
  unfold laws_sameComplex_c at h
  split at h
  · rename_i a0r a0i a1r a1i
    cases h
    exact ⟨rfl, agree_tot (mk := laws_sameComplex_mk) (t := laws_sameComplex_tree (a0r, a0i) (a1r, a1i)) (by unfold Agree; kernel_rfl) (by kernel_rfl)⟩
  · cases h

/-- loop.example/g01284/laws.eqShip -/
def laws_eqShip_tree (a0 : ((Nat × Nat) × (Nat × Nat))) (a1 : ((Nat × Nat) × (Nat × Nat))) : DT (Bool) :=
  .need ((fconvOk .f32 a0.1.1 .f64)) (
  .need ((fconvOk .f32 a0.1.2 .f64)) (
  let x0 := fconv .f32 a0.1.1 .f64;
  let x1 := fconv .f32 a0.1.2 .f64;
  .need ((fconvOk .f32 a1.1.1 .f64)) (
  .need ((fconvOk .f32 a1.1.2 .f64)) (
  let x2 := fconv .f32 a1.1.1 .f64;
  let x3 := fconv .f32 a1.1.2 .f64;
  let x4 := laws_sameComplex ((x0, x1)) ((x2, x3));
  .ask (!x4)
  (
   .leaf false)
  (
   .need ((fconvOk .f32 a0.2.1 .f64)) (
   .need ((fconvOk .f32 a0.2.2 .f64)) (
   let x5 := fconv .f32 a0.2.1 .f64;
   let x6 := fconv .f32 a0.2.2 .f64;
   .need ((fconvOk .f32 a1.2.1 .f64)) (
   .need ((fconvOk .f32 a1.2.2 .f64)) (
   let x7 := fconv .f32 a1.2.1 .f64;
   let x8 := fconv .f32 a1.2.2 .f64;
   let x9 := laws_sameComplex ((x5, x6)) ((x7, x8));
   .ask (!x9)
   (
    .leaf false)
   (
    .leaf true))))))))))
def laws_eqShip (a0 : ((Nat × Nat) × (Nat × Nat))) (a1 : ((Nat × Nat) × (Nat × Nat))) : Bool := (laws_eqShip_tree a0 a1).val
def laws_eqShip_need (a0 : ((Nat × Nat) × (Nat × Nat))) (a1 : ((Nat × Nat) × (Nat × Nat))) : Bool := (laws_eqShip_tree a0 a1).ok
def laws_eqShip_mk (p : Bool) : Ret := ⟨.bool p, []⟩
def laws_eqShip_c : Con := fun args => match args with
  | [.agg [.cplx .f32 a0_0r a0_0i, .cplx .f32 a0_1r a0_1i], .agg [.cplx .f32 a1_0r a1_0i, .cplx .f32 a1_1r a1_1i]] => some (.need (laws_eqShip_need ((a0_0r, a0_0i), (a0_1r, a0_1i)) ((a1_0r, a1_0i), (a1_1r, a1_1i))) (.leaf (laws_eqShip_mk (laws_eqShip ((a0_0r, a0_0i), (a0_1r, a0_1i)) ((a1_0r, a1_0i), (a1_1r, a1_1i))))))
  | _ => none
set_option maxRecDepth 100000 in
theorem laws_eqShip_ok : FunOK Try.prog 16 laws_eqShip_c.fn := by
  refine con_ok (Γ := gam [(31, laws_sameComplex_c)]) (gam_cons laws_sameComplex_ok (gam_nil)) tab_ok (by kernel_rfl) Try.func16 (by kernel_rfl) (by kernel_rfl) Try.ntmps16 Try.results16 (loopsOK_none rfl _) 100000 fun args t h => ?_
  unfold laws_eqShip_c at h
  split at h
  · rename_i a0_0r a0_0i a0_1r a0_1i a1_0r a1_0i a1_1r a1_1i
    cases h
    exact ⟨rfl, agree_need (mk := laws_eqShip_mk) (t := laws_eqShip_tree ((a0_0r, a0_0i), (a0_1r, a0_1i)) ((a1_0r, a1_0i), (a1_1r, a1_1i))) (by unfold Agree; kernel_rfl)⟩
  · cases h

/-- loop.example/g01284/laws.eqEntry -/
def laws_eqEntry_tree (a0 : Entry) (a1 : Entry) : DT (Bool) :=
  let x0 := (!(a0.Name == a1.Name));
  .ask x0
  (
   .leaf false)
  (
   .need ((fconvOk .f32 a0.Mass .f64)) (
   let x1 := fconv .f32 a0.Mass .f64;
   .need ((fconvOk .f32 a1.Mass .f64)) (
   let x2 := fconv .f32 a1.Mass .f64;
   let x3 := laws_sameFloat x1 x2;
   .ask (!x3)
   (
    .leaf false)
   (
    .need ((laws_eqOrbit_need (⟨a0.Orb.Long, a0.Orb.Round, a0.Orb.Tilt, a0.Orb.Node, a0.Orb.Peri, a0.Orb.Phase⟩ : Orbit) (⟨a1.Orb.Long, a1.Orb.Round, a1.Orb.Tilt, a1.Orb.Node, a1.Orb.Peri, a1.Orb.Phase⟩ : Orbit))) (
    let x4 := laws_eqOrbit (⟨a0.Orb.Long, a0.Orb.Round, a0.Orb.Tilt, a0.Orb.Node, a0.Orb.Peri, a0.Orb.Phase⟩ : Orbit) (⟨a1.Orb.Long, a1.Orb.Round, a1.Orb.Tilt, a1.Orb.Node, a1.Orb.Peri, a1.Orb.Phase⟩ : Orbit);
    .ask (!x4)
    (
     .leaf false)
    (
     .leaf true))))))
def laws_eqEntry (a0 : Entry) (a1 : Entry) : Bool := (laws_eqEntry_tree a0 a1).val
def laws_eqEntry_need (a0 : Entry) (a1 : Entry) : Bool := (laws_eqEntry_tree a0 a1).ok
def laws_eqEntry_mk (p : Bool) : Ret := ⟨.bool p, []⟩
def laws_eqEntry_c : Con := fun args => match args with
  | [.agg [.str a0_0, .flt .f32 a0_1, .flt .f32 a0_2, .flt .f32 a0_3, .flt .f32 a0_4, .flt .f32 a0_5, .flt .f32 a0_6, .flt .f32 a0_7], .agg [.str a1_0, .flt .f32 a1_1, .flt .f32 a1_2, .flt .f32 a1_3, .flt .f32 a1_4, .flt .f32 a1_5, .flt .f32 a1_6, .flt .f32 a1_7]] => some (.need (laws_eqEntry_need (⟨a0_0, a0_1, ⟨a0_2, a0_3, a0_4, a0_5, a0_6, a0_7⟩⟩ : Entry) (⟨a1_0, a1_1, ⟨a1_2, a1_3, a1_4, a1_5, a1_6, a1_7⟩⟩ : Entry)) (.leaf (laws_eqEntry_mk (laws_eqEntry (⟨a0_0, a0_1, ⟨a0_2, a0_3, a0_4, a0_5, a0_6, a0_7⟩⟩ : Entry) (⟨a1_0, a1_1, ⟨a1_2, a1_3, a1_4, a1_5, a1_6, a1_7⟩⟩ : Entry)))))
  | _ => none
set_option maxRecDepth 100000 in
theorem laws_eqEntry_ok : FunOK Try.prog 32 laws_eqEntry_c.fn := by
  refine con_ok (Γ := gam [(15, laws_sameFloat_c), (14, laws_eqOrbit_c)]) (gam_cons laws_sameFloat_ok (gam_cons laws_eqOrbit_ok (gam_nil))) tab_ok (by kernel_rfl) Try.func32 (by kernel_rfl) (by kernel_rfl) Try.ntmps32 Try.results32 (loopsOK_none rfl _) 100000 fun args t h => ?_
  unfold laws_eqEntry_c at h
  split at h
  · rename_i a0_0 a0_1 a0_2 a0_3 a0_4 a0_5 a0_6 a0_7 a1_0 a1_1 a1_2 a1_3 a1_4 a1_5 a1_6 a1_7
    cases h
    exact ⟨rfl, agree_need (mk := laws_eqEntry_mk) (t := laws_eqEntry_tree (⟨a0_0, a0_1, ⟨a0_2, a0_3, a0_4, a0_5, a0_6, a0_7⟩⟩ : Entry) (⟨a1_0, a1_1, ⟨a1_2, a1_3, a1_4, a1_5, a1_6, a1_7⟩⟩ : Entry)) (by unfold Agree; kernel_rfl)⟩
  · cases h

/-- a loop of laws_eqEntryS -/
def laws_eqEntryS_loop0_step (p : List Entry × List Entry) (s : Int) : Round (Int) ((Unit) ⊕ (Unit)) :=
  let x0 := ((List.length p.1 : Nat) : Int);
  let x1 := decide (s < x0);
  .ask x1
  (
   .need ((decide (0 ≤ s) && decide (s < ((List.length p.1 : Nat) : Int)))) (
   let x2 := List.getD p.1 (Int.toNat s) default;
   .need ((decide (0 ≤ s) && decide (s < ((List.length p.2 : Nat) : Int)))) (
   let x3 := List.getD p.2 (Int.toNat s) default;
   .need ((laws_eqEntry_need (⟨x2.Name, x2.Mass, ⟨x2.Orb.Long, x2.Orb.Round, x2.Orb.Tilt, x2.Orb.Node, x2.Orb.Peri, x2.Orb.Phase⟩⟩ : Entry) (⟨x3.Name, x3.Mass, ⟨x3.Orb.Long, x3.Orb.Round, x3.Orb.Tilt, x3.Orb.Node, x3.Orb.Peri, x3.Orb.Phase⟩⟩ : Entry))) (
   let x4 := laws_eqEntry (⟨x2.Name, x2.Mass, ⟨x2.Orb.Long, x2.Orb.Round, x2.Orb.Tilt, x2.Orb.Node, x2.Orb.Peri, x2.Orb.Phase⟩⟩ : Entry) (⟨x3.Name, x3.Mass, ⟨x3.Orb.Long, x3.Orb.Round, x3.Orb.Tilt, x3.Orb.Node, x3.Orb.Peri, x3.Orb.Phase⟩⟩ : Entry);
   .ask (!x4)
   (
    .leaf (.inr (.inl ()), []))
   (
    let x5 := IntKind.wrap .i64 (s + 1);
    .leaf (.inl x5, []))))))
  (
   .leaf (.inr (.inr ()), []))
def laws_eqEntryS_loop0_L (p : List Entry × List Entry) : LoopS (Int) ((Unit) ⊕ (Unit)) := { tl := fun s => [.vslc 1 .entry p.1, .vslc 2 .entry p.2, .junk, .junk, .junk, .int .i64 s], hl := fun s => [], ex := fun r => match r with | .inl r => .ret | .inr r => .exit 0, otl := fun r => match r with | .inl r => [.junk, .junk, .junk, .junk, .bool false] | .inr r => [.junk], ohl := fun r => match r with | .inl r => [] | .inr r => [] }
def laws_eqEntryS_loop0_ext : St → Option ((List Entry × List Entry) × (Int) × List Nat) := fun S => match (S.tm 0).unK, (S.tm 1).unK, (S.tm 5).unK with
  | .vslc 1 .entry q0, .vslc 2 .entry q1, .int .i64 q2 => some ((q0, q1), q2, [])
  | _, _, _ => none
def laws_eqEntryS_loop0_post (p : List Entry × List Entry) (r : (Unit) ⊕ (Unit)) : DT (Ex × St) := .ask (isL r) (.leaf (.ret, LSt [.junk, .junk, .junk, .junk, .bool false] [])) (.leaf (.exit 0, LSt [.junk] []))
def laws_eqEntryS_loop0 (p : List Entry × List Entry) (s : Int) : (Unit) ⊕ (Unit) := loopVal (laws_eqEntryS_loop0_step p) s
def laws_eqEntryS_loop0_ends (p : List Entry × List Entry) (s : Int) : Bool := loopEnds (laws_eqEntryS_loop0_step p) s
def laws_eqEntryS_loop0_F : LoopF := loopF laws_eqEntryS_loop0_step laws_eqEntryS_loop0_ext laws_eqEntryS_loop0_post
theorem laws_eqEntryS_loop0_hext : ∀ S p s fl, laws_eqEntryS_loop0_ext S = some (p, s, fl) → Norm S fl ((laws_eqEntryS_loop0_L p).tl s) ((laws_eqEntryS_loop0_L p).hl s) (laws_eqEntryS_loop0_L p).gl := by
  intro S p s fl h
  unfold laws_eqEntryS_loop0_ext at h
  (repeat' split at h) <;> first
    | (cases h; constructor <;> simp_all [laws_eqEntryS_loop0_L, keepT, keepH, rens, renH, PV.ren, Blk.ren, fOf, lget, nodup, natIn, lenEq, gtm, PV.unK])
    | cases h
theorem laws_eqEntryS_loop0_hpost : ∀ p r e S', (laws_eqEntryS_loop0_post p r).get = some (e, S') → e = (laws_eqEntryS_loop0_L p).ex r ∧ S' = LSt ((laws_eqEntryS_loop0_L p).otl r) ((laws_eqEntryS_loop0_L p).ohl r) ((laws_eqEntryS_loop0_L p).ogl r) := by
  intro p r e S' h
  unfold laws_eqEntryS_loop0_post at h
  cases r <;> (simp only [isL, DT.get, Option.some.injEq, Prod.mk.injEq] at h; exact ⟨h.1.symm, h.2.symm⟩)

def laws_eqEntryS_loops : Nat → Option LoopF := loopTab [(4, laws_eqEntryS_loop0_F)]
set_option maxRecDepth 100000 in
theorem laws_eqEntryS_l0 : LoopOK Try.prog ⟨gam [(32, laws_eqEntry_c)], tab, 27, laws_eqEntryS_loops⟩ (lp Try.f17 0) :=
  loopOK_some (F := laws_eqEntryS_loop0_F) (by kernel_rfl) (loopF_ok (E := ⟨gam [(32, laws_eqEntry_c)], tab, 27, laws_eqEntryS_loops⟩) ⟨gam_cons laws_eqEntry_ok (gam_nil), tab_ok, by kernel_rfl⟩ (fuel := 100000) (loopsOK_list (l := []) (by kernel_rfl) trivial) (L := laws_eqEntryS_loop0_L) (fun p s => by unfold AgreeL; exact ⟨by kernel_rfl, by kernel_rfl⟩) (fun _ r h => by cases r <;> exact Ex.noConfusion h) laws_eqEntryS_loop0_hext laws_eqEntryS_loop0_hpost)
/-- loop.example/g01284/laws.eqEntryS -/
def laws_eqEntryS_tree (a0 : List Entry) (a1 : List Entry) : DT (Bool) :=
  let x0 := ((List.length a0 : Nat) : Int);
  let x1 := ((List.length a1 : Nat) : Int);
  let x2 := (x0 != x1);
  .ask x2
  (
   .leaf false)
  (
   .need ((laws_eqEntryS_loop0_ends (a0, a1) 0)) (
   let x3 := laws_eqEntryS_loop0 (a0, a1) 0;
   .ask ((isL x3))
   (
    .leaf false)
   (
    .leaf true)))
def laws_eqEntryS (a0 : List Entry) (a1 : List Entry) : Bool := (laws_eqEntryS_tree a0 a1).val
def laws_eqEntryS_need (a0 : List Entry) (a1 : List Entry) : Bool := (laws_eqEntryS_tree a0 a1).ok
def laws_eqEntryS_mk (p : Bool) : Ret := ⟨.bool p, []⟩
def laws_eqEntryS_c0 : Con := fun args => match args with
  | [.vslc 1 .entry a0, .vslc 2 .entry a1] => some (.need (laws_eqEntryS_need a0 a1) (.leaf (laws_eqEntryS_mk (laws_eqEntryS a0 a1))))
  | _ => none
set_option maxRecDepth 100000 in
theorem laws_eqEntryS_ok0 : FunOK Try.prog 17 laws_eqEntryS_c0.fn := by
  refine con_ok (Γ := gam [(32, laws_eqEntry_c)]) (gam_cons laws_eqEntry_ok (gam_nil)) tab_ok (by kernel_rfl) Try.func17 (by kernel_rfl) (by kernel_rfl) Try.ntmps17 Try.results17 (loops := laws_eqEntryS_loops) (loopsOK_list (l := [lp Try.f17 0]) (by kernel_rfl) ⟨laws_eqEntryS_l0, trivial⟩) 100000 fun args t h => ?_
  unfold laws_eqEntryS_c0 at h
  split at h
  · rename_i a0 a1
    cases h
    exact ⟨rfl, agree_need (mk := laws_eqEntryS_mk) (t := laws_eqEntryS_tree a0 a1) (by unfold Agree; kernel_rfl)⟩
  · cases h
def laws_eqEntryS_c : Con := fun args => laws_eqEntryS_c0 (norms 0 [.slc .entry, .slc .entry] args)
set_option maxRecDepth 100000 in
theorem laws_eqEntryS_ok : FunOK Try.prog 17 laws_eqEntryS_c.fn := con_norm [.slc .entry, .slc .entry] laws_eqEntryS_ok0

/-- a loop of laws_markBodyS -/
def laws_markBodyS_loop0_step (p : Unit) (s : Int × Int × List Body) : Round (Int × Int × List Body) (Int × List Body) :=
  let x0 := ((List.length s.2.2 : Nat) : Int);
  let x1 := decide (s.2.1 < x0);
  .ask x1
  (
   let x2 := fofInt .f32 s.1;
   .need ((decide (0 ≤ s.2.1) && decide (s.2.1 < ((List.length s.2.2 : Nat) : Int)))) (
   .need ((decide ((Int.toNat s.2.1) < List.length s.2.2))) (
   let x3 := List.set s.2.2 (Int.toNat s.2.1) (⟨⟨x2, (List.getD s.2.2 (Int.toNat s.2.1) default).At.Y, (List.getD s.2.2 (Int.toNat s.2.1) default).At.Z⟩, ⟨(List.getD s.2.2 (Int.toNat s.2.1) default).Speed.X, (List.getD s.2.2 (Int.toNat s.2.1) default).Speed.Y, (List.getD s.2.2 (Int.toNat s.2.1) default).Speed.Z⟩, (List.getD s.2.2 (Int.toNat s.2.1) default).Mass⟩ : Body);
   let x4 := IntKind.wrap .i64 (s.1 + 1);
   let x5 := fofInt .f32 x4;
   .need ((decide (0 ≤ s.2.1) && decide (s.2.1 < ((List.length x3 : Nat) : Int)))) (
   .need ((decide ((Int.toNat s.2.1) < List.length x3))) (
   let x6 := List.set x3 (Int.toNat s.2.1) (⟨⟨(List.getD x3 (Int.toNat s.2.1) default).At.X, x5, (List.getD x3 (Int.toNat s.2.1) default).At.Z⟩, ⟨(List.getD x3 (Int.toNat s.2.1) default).Speed.X, (List.getD x3 (Int.toNat s.2.1) default).Speed.Y, (List.getD x3 (Int.toNat s.2.1) default).Speed.Z⟩, (List.getD x3 (Int.toNat s.2.1) default).Mass⟩ : Body);
   let x7 := IntKind.wrap .i64 (x4 + 1);
   let x8 := fofInt .f32 x7;
   .need ((decide (0 ≤ s.2.1) && decide (s.2.1 < ((List.length x6 : Nat) : Int)))) (
   .need ((decide ((Int.toNat s.2.1) < List.length x6))) (
   let x9 := List.set x6 (Int.toNat s.2.1) (⟨⟨(List.getD x6 (Int.toNat s.2.1) default).At.X, (List.getD x6 (Int.toNat s.2.1) default).At.Y, x8⟩, ⟨(List.getD x6 (Int.toNat s.2.1) default).Speed.X, (List.getD x6 (Int.toNat s.2.1) default).Speed.Y, (List.getD x6 (Int.toNat s.2.1) default).Speed.Z⟩, (List.getD x6 (Int.toNat s.2.1) default).Mass⟩ : Body);
   let x10 := IntKind.wrap .i64 (x7 + 1);
   let x11 := fofInt .f32 x10;
   .need ((decide (0 ≤ s.2.1) && decide (s.2.1 < ((List.length x9 : Nat) : Int)))) (
   .need ((decide ((Int.toNat s.2.1) < List.length x9))) (
   let x12 := List.set x9 (Int.toNat s.2.1) (⟨⟨(List.getD x9 (Int.toNat s.2.1) default).At.X, (List.getD x9 (Int.toNat s.2.1) default).At.Y, (List.getD x9 (Int.toNat s.2.1) default).At.Z⟩, ⟨x11, (List.getD x9 (Int.toNat s.2.1) default).Speed.Y, (List.getD x9 (Int.toNat s.2.1) default).Speed.Z⟩, (List.getD x9 (Int.toNat s.2.1) default).Mass⟩ : Body);
   let x13 := IntKind.wrap .i64 (x10 + 1);
   let x14 := fofInt .f32 x13;
   .need ((decide (0 ≤ s.2.1) && decide (s.2.1 < ((List.length x12 : Nat) : Int)))) (
   .need ((decide ((Int.toNat s.2.1) < List.length x12))) (
   let x15 := List.set x12 (Int.toNat s.2.1) (⟨⟨(List.getD x12 (Int.toNat s.2.1) default).At.X, (List.getD x12 (Int.toNat s.2.1) default).At.Y, (List.getD x12 (Int.toNat s.2.1) default).At.Z⟩, ⟨(List.getD x12 (Int.toNat s.2.1) default).Speed.X, x14, (List.getD x12 (Int.toNat s.2.1) default).Speed.Z⟩, (List.getD x12 (Int.toNat s.2.1) default).Mass⟩ : Body);
   let x16 := IntKind.wrap .i64 (x13 + 1);
   let x17 := fofInt .f32 x16;
   .need ((decide (0 ≤ s.2.1) && decide (s.2.1 < ((List.length x15 : Nat) : Int)))) (
   .need ((decide ((Int.toNat s.2.1) < List.length x15))) (
   let x18 := List.set x15 (Int.toNat s.2.1) (⟨⟨(List.getD x15 (Int.toNat s.2.1) default).At.X, (List.getD x15 (Int.toNat s.2.1) default).At.Y, (List.getD x15 (Int.toNat s.2.1) default).At.Z⟩, ⟨(List.getD x15 (Int.toNat s.2.1) default).Speed.X, (List.getD x15 (Int.toNat s.2.1) default).Speed.Y, x17⟩, (List.getD x15 (Int.toNat s.2.1) default).Mass⟩ : Body);
   let x19 := IntKind.wrap .i64 (x16 + 1);
   let x20 := fofInt .f32 x19;
   .need ((decide (0 ≤ s.2.1) && decide (s.2.1 < ((List.length x18 : Nat) : Int)))) (
   .need ((decide ((Int.toNat s.2.1) < List.length x18))) (
   let x21 := List.set x18 (Int.toNat s.2.1) (⟨⟨(List.getD x18 (Int.toNat s.2.1) default).At.X, (List.getD x18 (Int.toNat s.2.1) default).At.Y, (List.getD x18 (Int.toNat s.2.1) default).At.Z⟩, ⟨(List.getD x18 (Int.toNat s.2.1) default).Speed.X, (List.getD x18 (Int.toNat s.2.1) default).Speed.Y, (List.getD x18 (Int.toNat s.2.1) default).Speed.Z⟩, x20⟩ : Body);
   let x22 := IntKind.wrap .i64 (x19 + 1);
   let x23 := IntKind.wrap .i64 (s.2.1 + 1);
   .leaf (.inl (x22, x23, x21), [0]))))))))))))))))
  (
   .leaf (.inr (s.1, s.2.2), [0]))
def laws_markBodyS_loop0_L (p : Unit) : LoopS (Int × Int × List Body) (Int × List Body) := { tl := fun s => [.own 0, .int .i64 s.1, .junk, .junk, .junk, .int .i64 s.2.1], hl := fun s => [some (.typed 56 .body s.2.2)], ex := fun r => .exit 0, otl := fun r => [.junk, .int .i64 r.1], ohl := fun r => [some (.typed 56 .body r.2)], gl := [.own 0], ogl := fun _ => [.own 0] }
def laws_markBodyS_loop0_ext : St → Option ((Unit) × (Int × Int × List Body) × List Nat) := fun S => match (S.tm 0).unK, (S.tm 1).unK, (S.tm 5).unK with
  | .own i0, .int .i64 q0, .int .i64 q1 => (match S.gs with
    | [.own g0] => if g0 = i0 then (match S.hp i0 with
    | some (.typed 56 .body q2) => some ((), (q0, q1, q2), [i0])
    | _ => none) else none
    | _ => none)
  | _, _, _ => none
def laws_markBodyS_loop0_post (p : Unit) (r : Int × List Body) : DT (Ex × St) := .leaf (.exit 0, LSt [.junk, .int .i64 r.1] [some (.typed 56 .body r.2)] [.own 0])
def laws_markBodyS_loop0 (p : Unit) (s : Int × Int × List Body) : Int × List Body := loopVal (laws_markBodyS_loop0_step p) s
def laws_markBodyS_loop0_ends (p : Unit) (s : Int × Int × List Body) : Bool := loopEnds (laws_markBodyS_loop0_step p) s
def laws_markBodyS_loop0_F : LoopF := loopF laws_markBodyS_loop0_step laws_markBodyS_loop0_ext laws_markBodyS_loop0_post
theorem laws_markBodyS_loop0_hext : ∀ S p s fl, laws_markBodyS_loop0_ext S = some (p, s, fl) → Norm S fl ((laws_markBodyS_loop0_L p).tl s) ((laws_markBodyS_loop0_L p).hl s) (laws_markBodyS_loop0_L p).gl := by
  intro S p s fl h
  unfold laws_markBodyS_loop0_ext at h
  (repeat' split at h) <;> first
    | (cases h; constructor <;> simp_all [laws_markBodyS_loop0_L, keepT, keepH, rens, renH, PV.ren, Blk.ren, fOf, lget, nodup, natIn, lenEq, gtm, PV.unK])
    | cases h
theorem laws_markBodyS_loop0_hpost : ∀ p r e S', (laws_markBodyS_loop0_post p r).get = some (e, S') → e = (laws_markBodyS_loop0_L p).ex r ∧ S' = LSt ((laws_markBodyS_loop0_L p).otl r) ((laws_markBodyS_loop0_L p).ohl r) ((laws_markBodyS_loop0_L p).ogl r) := by
  intro p r e S' h
  unfold laws_markBodyS_loop0_post at h
  simp only [DT.get, Option.some.injEq, Prod.mk.injEq] at h; exact ⟨h.1.symm, h.2.symm⟩

def laws_markBodyS_loops : Nat → Option LoopF := loopTab [(2, laws_markBodyS_loop0_F)]
set_option maxRecDepth 100000 in
theorem laws_markBodyS_l0 : LoopOK Try.prog ⟨gam [], tab, 75, laws_markBodyS_loops⟩ (lp Try.f18 0) :=
  loopOK_some (F := laws_markBodyS_loop0_F) (by kernel_rfl) (loopF_ok (E := ⟨gam [], tab, 75, laws_markBodyS_loops⟩) ⟨gam_nil, tab_ok, by kernel_rfl⟩ (fuel := 100000) (loopsOK_list (l := []) (by kernel_rfl) trivial) (L := laws_markBodyS_loop0_L) (fun p s => by unfold AgreeL; exact ⟨by kernel_rfl, by kernel_rfl⟩) (fun _ _ h => Ex.noConfusion h) laws_markBodyS_loop0_hext laws_markBodyS_loop0_hpost)
/-- loop.example/g01284/laws.markBodyS -/
def laws_markBodyS_tree (a0 : List Body) (a1 : Int) : DT (Int × List Body) :=
  .need ((laws_markBodyS_loop0_ends () (a1, 0, a0))) (
  let x0 := laws_markBodyS_loop0 () (a1, 0, a0);
  .leaf (x0.1, x0.2))
def laws_markBodyS (a0 : List Body) (a1 : Int) : Int × List Body := (laws_markBodyS_tree a0 a1).val
def laws_markBodyS_need (a0 : List Body) (a1 : Int) : Bool := (laws_markBodyS_tree a0 a1).ok
def laws_markBodyS_mk (p : Int × List Body) : PV × List (.body : UC).T := (.int .i64 p.1, p.2)
def laws_markBodyS_M : MCon := ⟨56, .body, fun a0 ps => match ps with
  | [.int .i64 a1] => some (.need (laws_markBodyS_need a0 a1) (.leaf (laws_markBodyS_mk (laws_markBodyS a0 a1))))
  | _ => none⟩
set_option maxRecDepth 100000 in
theorem laws_markBodyS_ok : MutOK Try.prog 18 laws_markBodyS_M := by
  refine mut_ok (Γ := gam []) (gam_nil) tab_ok (by kernel_rfl) Try.func18 (by kernel_rfl) (by kernel_rfl) Try.ntmps18 Try.results18 (loops := laws_markBodyS_loops) (loopsOK_list (l := [lp Try.f18 0]) (by kernel_rfl) ⟨laws_markBodyS_l0, trivial⟩) 100000 fun a0 ps t h => ?_
  simp only [laws_markBodyS_M] at h
  split at h
  · rename_i a1
    cases h
    exact ⟨rfl, agreeM_need (mk := laws_markBodyS_mk) (t := laws_markBodyS_tree a0 a1) (by unfold AgreeM; kernel_rfl)⟩
  · cases h

/-- a loop of laws_markText -/
def laws_markText_loop0_step (p : Unit) (s : Int × (List UInt8)) : Round (Int × (List UInt8)) ((List UInt8)) :=
  let x0 := decide (s.1 > 0);
  .ask x0
  (
   .skip (
   let x1 := Int.tmod s.1 10;
   let x2 := IntKind.wrap .i64 (48 + x1);
   let x3 := IntKind.wrap .u8 x2;
   let x4 := strOf [x3];
   .need ((decide (List.length x4 + List.length s.2 ≤ 9223372036854775807))) (
   let x5 := x4 ++ s.2;
   .skip (
   let x6 := IntKind.wrap .i64 (Int.tdiv s.1 10);
   .leaf (.inl (x6, x5), [])))))
  (
   .leaf (.inr s.2, []))
def laws_markText_loop0_L (p : Unit) : LoopS (Int × (List UInt8)) ((List UInt8)) := { tl := fun s => [.int .i64 s.1, .junk, .junk, .str s.2], hl := fun s => [], ex := fun r => .exit 0, otl := fun r => [.junk, .junk, .junk, .str r], ohl := fun r => [] }
def laws_markText_loop0_ext : St → Option ((Unit) × (Int × (List UInt8)) × List Nat) := fun S => match (S.tm 0).unK, (S.tm 3).unK with
  | .int .i64 q0, .str q1 => some ((), (q0, q1), [])
  | _, _ => none
def laws_markText_loop0_post (p : Unit) (r : (List UInt8)) : DT (Ex × St) := .leaf (.exit 0, LSt [.junk, .junk, .junk, .str r] [])
def laws_markText_loop0 (p : Unit) (s : Int × (List UInt8)) : (List UInt8) := loopVal (laws_markText_loop0_step p) s
def laws_markText_loop0_ends (p : Unit) (s : Int × (List UInt8)) : Bool := loopEnds (laws_markText_loop0_step p) s
def laws_markText_loop0_F : LoopF := loopF laws_markText_loop0_step laws_markText_loop0_ext laws_markText_loop0_post
theorem laws_markText_loop0_hext : ∀ S p s fl, laws_markText_loop0_ext S = some (p, s, fl) → Norm S fl ((laws_markText_loop0_L p).tl s) ((laws_markText_loop0_L p).hl s) (laws_markText_loop0_L p).gl := by
  intro S p s fl h
  unfold laws_markText_loop0_ext at h
  (repeat' split at h) <;> first
    | (cases h; constructor <;> simp_all [laws_markText_loop0_L, keepT, keepH, rens, renH, PV.ren, Blk.ren, fOf, lget, nodup, natIn, lenEq, gtm, PV.unK])
    | cases h
theorem laws_markText_loop0_hpost : ∀ p r e S', (laws_markText_loop0_post p r).get = some (e, S') → e = (laws_markText_loop0_L p).ex r ∧ S' = LSt ((laws_markText_loop0_L p).otl r) ((laws_markText_loop0_L p).ohl r) ((laws_markText_loop0_L p).ogl r) := by
  intro p r e S' h
  unfold laws_markText_loop0_post at h
  simp only [DT.get, Option.some.injEq, Prod.mk.injEq] at h; exact ⟨h.1.symm, h.2.symm⟩

def laws_markText_loops : Nat → Option LoopF := loopTab [(4, laws_markText_loop0_F)]
set_option maxRecDepth 100000 in
theorem laws_markText_l0 : LoopOK Try.prog ⟨gam [], tab, 20, laws_markText_loops⟩ (lp Try.f33 0) :=
  loopOK_some (F := laws_markText_loop0_F) (by kernel_rfl) (loopF_ok (E := ⟨gam [], tab, 20, laws_markText_loops⟩) ⟨gam_nil, tab_ok, by kernel_rfl⟩ (fuel := 100000) (loopsOK_list (l := []) (by kernel_rfl) trivial) (L := laws_markText_loop0_L) (fun p s => by unfold AgreeL; exact ⟨by kernel_rfl, by kernel_rfl⟩) (fun _ _ h => Ex.noConfusion h) laws_markText_loop0_hext laws_markText_loop0_hpost)
/-- loop.example/g01284/laws.markText -/
def laws_markText_tree (a0 : Int) : DT ((List UInt8)) :=
  let x0 := decide (a0 ≤ 0);
  .ask x0
  (
   .leaf ([109, 48]))
  (
   .need ((laws_markText_loop0_ends () (a0, []))) (
   let x1 := laws_markText_loop0 () (a0, []);
   .need ((decide (List.length [109] + List.length x1 ≤ 9223372036854775807))) (
   let x2 := [109] ++ x1;
   .leaf x2)))
def laws_markText (a0 : Int) : (List UInt8) := (laws_markText_tree a0).val
def laws_markText_need (a0 : Int) : Bool := (laws_markText_tree a0).ok
def laws_markText_mk (p : (List UInt8)) : Ret := ⟨.str p, []⟩
def laws_markText_c : Con := fun args => match args with
  | [.int .i64 a0] => some (.need (laws_markText_need a0) (.leaf (laws_markText_mk (laws_markText a0))))
  | _ => none
set_option maxRecDepth 100000 in
theorem laws_markText_ok : FunOK Try.prog 33 laws_markText_c.fn := by
  refine con_ok (Γ := gam []) (gam_nil) tab_ok (by kernel_rfl) Try.func33 (by kernel_rfl) (by kernel_rfl) Try.ntmps33 Try.results33 (loops := laws_markText_loops) (loopsOK_list (l := [lp Try.f33 0]) (by kernel_rfl) ⟨laws_markText_l0, trivial⟩) 100000 fun args t h => ?_
  unfold laws_markText_c at h
  split at h
  · rename_i a0
    cases h
    exact ⟨rfl, agree_need (mk := laws_markText_mk) (t := laws_markText_tree a0) (by unfold Agree; kernel_rfl)⟩
  · cases h

/-- a loop of laws_markEntryS -/
def laws_markEntryS_loop0_step (p : Unit) (s : Int × Int × List Entry) : Round (Int × Int × List Entry) (Int × List Entry) :=
  let x0 := ((List.length s.2.2 : Nat) : Int);
  let x1 := decide (s.2.1 < x0);
  .ask x1
  (
   .need ((laws_markText_need s.1)) (
   let x2 := laws_markText s.1;
   .need ((decide (0 ≤ s.2.1) && decide (s.2.1 < ((List.length s.2.2 : Nat) : Int)))) (
   .need ((decide ((Int.toNat s.2.1) < List.length s.2.2))) (
   let x3 := List.set s.2.2 (Int.toNat s.2.1) (⟨x2, (List.getD s.2.2 (Int.toNat s.2.1) default).Mass, ⟨(List.getD s.2.2 (Int.toNat s.2.1) default).Orb.Long, (List.getD s.2.2 (Int.toNat s.2.1) default).Orb.Round, (List.getD s.2.2 (Int.toNat s.2.1) default).Orb.Tilt, (List.getD s.2.2 (Int.toNat s.2.1) default).Orb.Node, (List.getD s.2.2 (Int.toNat s.2.1) default).Orb.Peri, (List.getD s.2.2 (Int.toNat s.2.1) default).Orb.Phase⟩⟩ : Entry);
   let x4 := IntKind.wrap .i64 (s.1 + 1);
   let x5 := fofInt .f32 x4;
   .need ((decide (0 ≤ s.2.1) && decide (s.2.1 < ((List.length x3 : Nat) : Int)))) (
   .need ((decide ((Int.toNat s.2.1) < List.length x3))) (
   let x6 := List.set x3 (Int.toNat s.2.1) (⟨(List.getD x3 (Int.toNat s.2.1) default).Name, x5, ⟨(List.getD x3 (Int.toNat s.2.1) default).Orb.Long, (List.getD x3 (Int.toNat s.2.1) default).Orb.Round, (List.getD x3 (Int.toNat s.2.1) default).Orb.Tilt, (List.getD x3 (Int.toNat s.2.1) default).Orb.Node, (List.getD x3 (Int.toNat s.2.1) default).Orb.Peri, (List.getD x3 (Int.toNat s.2.1) default).Orb.Phase⟩⟩ : Entry);
   let x7 := IntKind.wrap .i64 (x4 + 1);
   let x8 := fofInt .f32 x7;
   .need ((decide (0 ≤ s.2.1) && decide (s.2.1 < ((List.length x6 : Nat) : Int)))) (
   .need ((decide ((Int.toNat s.2.1) < List.length x6))) (
   let x9 := List.set x6 (Int.toNat s.2.1) (⟨(List.getD x6 (Int.toNat s.2.1) default).Name, (List.getD x6 (Int.toNat s.2.1) default).Mass, ⟨x8, (List.getD x6 (Int.toNat s.2.1) default).Orb.Round, (List.getD x6 (Int.toNat s.2.1) default).Orb.Tilt, (List.getD x6 (Int.toNat s.2.1) default).Orb.Node, (List.getD x6 (Int.toNat s.2.1) default).Orb.Peri, (List.getD x6 (Int.toNat s.2.1) default).Orb.Phase⟩⟩ : Entry);
   let x10 := IntKind.wrap .i64 (x7 + 1);
   let x11 := fofInt .f32 x10;
   .need ((decide (0 ≤ s.2.1) && decide (s.2.1 < ((List.length x9 : Nat) : Int)))) (
   .need ((decide ((Int.toNat s.2.1) < List.length x9))) (
   let x12 := List.set x9 (Int.toNat s.2.1) (⟨(List.getD x9 (Int.toNat s.2.1) default).Name, (List.getD x9 (Int.toNat s.2.1) default).Mass, ⟨(List.getD x9 (Int.toNat s.2.1) default).Orb.Long, x11, (List.getD x9 (Int.toNat s.2.1) default).Orb.Tilt, (List.getD x9 (Int.toNat s.2.1) default).Orb.Node, (List.getD x9 (Int.toNat s.2.1) default).Orb.Peri, (List.getD x9 (Int.toNat s.2.1) default).Orb.Phase⟩⟩ : Entry);
   let x13 := IntKind.wrap .i64 (x10 + 1);
   let x14 := fofInt .f32 x13;
   .need ((decide (0 ≤ s.2.1) && decide (s.2.1 < ((List.length x12 : Nat) : Int)))) (
   .need ((decide ((Int.toNat s.2.1) < List.length x12))) (
   let x15 := List.set x12 (Int.toNat s.2.1) (⟨(List.getD x12 (Int.toNat s.2.1) default).Name, (List.getD x12 (Int.toNat s.2.1) default).Mass, ⟨(List.getD x12 (Int.toNat s.2.1) default).Orb.Long, (List.getD x12 (Int.toNat s.2.1) default).Orb.Round, x14, (List.getD x12 (Int.toNat s.2.1) default).Orb.Node, (List.getD x12 (Int.toNat s.2.1) default).Orb.Peri, (List.getD x12 (Int.toNat s.2.1) default).Orb.Phase⟩⟩ : Entry);
   let x16 := IntKind.wrap .i64 (x13 + 1);
   let x17 := fofInt .f32 x16;
   .need ((decide (0 ≤ s.2.1) && decide (s.2.1 < ((List.length x15 : Nat) : Int)))) (
   .need ((decide ((Int.toNat s.2.1) < List.length x15))) (
   let x18 := List.set x15 (Int.toNat s.2.1) (⟨(List.getD x15 (Int.toNat s.2.1) default).Name, (List.getD x15 (Int.toNat s.2.1) default).Mass, ⟨(List.getD x15 (Int.toNat s.2.1) default).Orb.Long, (List.getD x15 (Int.toNat s.2.1) default).Orb.Round, (List.getD x15 (Int.toNat s.2.1) default).Orb.Tilt, x17, (List.getD x15 (Int.toNat s.2.1) default).Orb.Peri, (List.getD x15 (Int.toNat s.2.1) default).Orb.Phase⟩⟩ : Entry);
   let x19 := IntKind.wrap .i64 (x16 + 1);
   let x20 := fofInt .f32 x19;
   .need ((decide (0 ≤ s.2.1) && decide (s.2.1 < ((List.length x18 : Nat) : Int)))) (
   .need ((decide ((Int.toNat s.2.1) < List.length x18))) (
   let x21 := List.set x18 (Int.toNat s.2.1) (⟨(List.getD x18 (Int.toNat s.2.1) default).Name, (List.getD x18 (Int.toNat s.2.1) default).Mass, ⟨(List.getD x18 (Int.toNat s.2.1) default).Orb.Long, (List.getD x18 (Int.toNat s.2.1) default).Orb.Round, (List.getD x18 (Int.toNat s.2.1) default).Orb.Tilt, (List.getD x18 (Int.toNat s.2.1) default).Orb.Node, x20, (List.getD x18 (Int.toNat s.2.1) default).Orb.Phase⟩⟩ : Entry);
   let x22 := IntKind.wrap .i64 (x19 + 1);
   let x23 := fofInt .f32 x22;
   .need ((decide (0 ≤ s.2.1) && decide (s.2.1 < ((List.length x21 : Nat) : Int)))) (
   .need ((decide ((Int.toNat s.2.1) < List.length x21))) (
   let x24 := List.set x21 (Int.toNat s.2.1) (⟨(List.getD x21 (Int.toNat s.2.1) default).Name, (List.getD x21 (Int.toNat s.2.1) default).Mass, ⟨(List.getD x21 (Int.toNat s.2.1) default).Orb.Long, (List.getD x21 (Int.toNat s.2.1) default).Orb.Round, (List.getD x21 (Int.toNat s.2.1) default).Orb.Tilt, (List.getD x21 (Int.toNat s.2.1) default).Orb.Node, (List.getD x21 (Int.toNat s.2.1) default).Orb.Peri, x23⟩⟩ : Entry);
   let x25 := IntKind.wrap .i64 (x22 + 1);
   let x26 := IntKind.wrap .i64 (s.2.1 + 1);
   .leaf (.inl (x25, x26, x24), [0])))))))))))))))))))
  (
   .leaf (.inr (s.1, s.2.2), [0]))
def laws_markEntryS_loop0_L (p : Unit) : LoopS (Int × Int × List Entry) (Int × List Entry) := { tl := fun s => [.own 0, .int .i64 s.1, .junk, .junk, .junk, .int .i64 s.2.1], hl := fun s => [some (.typed 63 .entry s.2.2)], ex := fun r => .exit 0, otl := fun r => [.junk, .int .i64 r.1], ohl := fun r => [some (.typed 63 .entry r.2)], gl := [.own 0], ogl := fun _ => [.own 0] }
def laws_markEntryS_loop0_ext : St → Option ((Unit) × (Int × Int × List Entry) × List Nat) := fun S => match (S.tm 0).unK, (S.tm 1).unK, (S.tm 5).unK with
  | .own i0, .int .i64 q0, .int .i64 q1 => (match S.gs with
    | [.own g0] => if g0 = i0 then (match S.hp i0 with
    | some (.typed 63 .entry q2) => some ((), (q0, q1, q2), [i0])
    | _ => none) else none
    | _ => none)
  | _, _, _ => none
def laws_markEntryS_loop0_post (p : Unit) (r : Int × List Entry) : DT (Ex × St) := .leaf (.exit 0, LSt [.junk, .int .i64 r.1] [some (.typed 63 .entry r.2)] [.own 0])
def laws_markEntryS_loop0 (p : Unit) (s : Int × Int × List Entry) : Int × List Entry := loopVal (laws_markEntryS_loop0_step p) s
def laws_markEntryS_loop0_ends (p : Unit) (s : Int × Int × List Entry) : Bool := loopEnds (laws_markEntryS_loop0_step p) s
def laws_markEntryS_loop0_F : LoopF := loopF laws_markEntryS_loop0_step laws_markEntryS_loop0_ext laws_markEntryS_loop0_post
theorem laws_markEntryS_loop0_hext : ∀ S p s fl, laws_markEntryS_loop0_ext S = some (p, s, fl) → Norm S fl ((laws_markEntryS_loop0_L p).tl s) ((laws_markEntryS_loop0_L p).hl s) (laws_markEntryS_loop0_L p).gl := by
  intro S p s fl h
  unfold laws_markEntryS_loop0_ext at h
  (repeat' split at h) <;> first
    | (cases h; constructor <;> simp_all [laws_markEntryS_loop0_L, keepT, keepH, rens, renH, PV.ren, Blk.ren, fOf, lget, nodup, natIn, lenEq, gtm, PV.unK])
    | cases h
theorem laws_markEntryS_loop0_hpost : ∀ p r e S', (laws_markEntryS_loop0_post p r).get = some (e, S') → e = (laws_markEntryS_loop0_L p).ex r ∧ S' = LSt ((laws_markEntryS_loop0_L p).otl r) ((laws_markEntryS_loop0_L p).ohl r) ((laws_markEntryS_loop0_L p).ogl r) := by
  intro p r e S' h
  unfold laws_markEntryS_loop0_post at h
  simp only [DT.get, Option.some.injEq, Prod.mk.injEq] at h; exact ⟨h.1.symm, h.2.symm⟩

def laws_markEntryS_loops : Nat → Option LoopF := loopTab [(2, laws_markEntryS_loop0_F)]
set_option maxRecDepth 100000 in
theorem laws_markEntryS_l0 : LoopOK Try.prog ⟨gam [(33, laws_markText_c)], tab, 83, laws_markEntryS_loops⟩ (lp Try.f19 0) :=
  loopOK_some (F := laws_markEntryS_loop0_F) (by kernel_rfl) (loopF_ok (E := ⟨gam [(33, laws_markText_c)], tab, 83, laws_markEntryS_loops⟩) ⟨gam_cons laws_markText_ok (gam_nil), tab_ok, by kernel_rfl⟩ (fuel := 100000) (loopsOK_list (l := []) (by kernel_rfl) trivial) (L := laws_markEntryS_loop0_L) (fun p s => by unfold AgreeL; exact ⟨by kernel_rfl, by kernel_rfl⟩) (fun _ _ h => Ex.noConfusion h) laws_markEntryS_loop0_hext laws_markEntryS_loop0_hpost)
/-- loop.example/g01284/laws.markEntryS -/
def laws_markEntryS_tree (a0 : List Entry) (a1 : Int) : DT (Int × List Entry) :=
  .need ((laws_markEntryS_loop0_ends () (a1, 0, a0))) (
  let x0 := laws_markEntryS_loop0 () (a1, 0, a0);
  .leaf (x0.1, x0.2))
def laws_markEntryS (a0 : List Entry) (a1 : Int) : Int × List Entry := (laws_markEntryS_tree a0 a1).val
def laws_markEntryS_need (a0 : List Entry) (a1 : Int) : Bool := (laws_markEntryS_tree a0 a1).ok
def laws_markEntryS_mk (p : Int × List Entry) : PV × List (.entry : UC).T := (.int .i64 p.1, p.2)
def laws_markEntryS_M : MCon := ⟨63, .entry, fun a0 ps => match ps with
  | [.int .i64 a1] => some (.need (laws_markEntryS_need a0 a1) (.leaf (laws_markEntryS_mk (laws_markEntryS a0 a1))))
  | _ => none⟩
set_option maxRecDepth 100000 in
theorem laws_markEntryS_ok : MutOK Try.prog 19 laws_markEntryS_M := by
  refine mut_ok (Γ := gam [(33, laws_markText_c)]) (gam_cons laws_markText_ok (gam_nil)) tab_ok (by kernel_rfl) Try.func19 (by kernel_rfl) (by kernel_rfl) Try.ntmps19 Try.results19 (loops := laws_markEntryS_loops) (loopsOK_list (l := [lp Try.f19 0]) (by kernel_rfl) ⟨laws_markEntryS_l0, trivial⟩) 100000 fun a0 ps t h => ?_
  simp only [laws_markEntryS_M] at h
  split at h
  · rename_i a1
    cases h
    exact ⟨rfl, agreeM_need (mk := laws_markEntryS_mk) (t := laws_markEntryS_tree a0 a1) (by unfold AgreeM; kernel_rfl)⟩
  · cases h

/-- a loop of laws_heldBodyS -/
def laws_heldBodyS_loop0_step (p : List Body) (s : Int × Int) : Round (Int × Int) ((Int) ⊕ (Int)) :=
  let x0 := ((List.length p : Nat) : Int);
  let x1 := decide (s.2 < x0);
  .ask x1
  (
   .need ((decide (0 ≤ s.2) && decide (s.2 < ((List.length p : Nat) : Int)))) (
   let x2 := List.getD p (Int.toNat s.2) default;
   let x3 := fofInt .f32 s.1;
   let x4 := fne .f32 x2.At.X x3;
   .ask x4
   (
    .leaf (.inr (.inl (-1)), []))
   (
    let x5 := IntKind.wrap .i64 (s.1 + 1);
    .need ((decide (0 ≤ s.2) && decide (s.2 < ((List.length p : Nat) : Int)))) (
    let x6 := List.getD p (Int.toNat s.2) default;
    let x7 := fofInt .f32 x5;
    let x8 := fne .f32 x6.At.Y x7;
    .ask x8
    (
     .leaf (.inr (.inl (-1)), []))
    (
     let x9 := IntKind.wrap .i64 (x5 + 1);
     .need ((decide (0 ≤ s.2) && decide (s.2 < ((List.length p : Nat) : Int)))) (
     let x10 := List.getD p (Int.toNat s.2) default;
     let x11 := fofInt .f32 x9;
     let x12 := fne .f32 x10.At.Z x11;
     .ask x12
     (
      .leaf (.inr (.inl (-1)), []))
     (
      let x13 := IntKind.wrap .i64 (x9 + 1);
      .need ((decide (0 ≤ s.2) && decide (s.2 < ((List.length p : Nat) : Int)))) (
      let x14 := List.getD p (Int.toNat s.2) default;
      let x15 := fofInt .f32 x13;
      let x16 := fne .f32 x14.Speed.X x15;
      .ask x16
      (
       .leaf (.inr (.inl (-1)), []))
      (
       let x17 := IntKind.wrap .i64 (x13 + 1);
       .need ((decide (0 ≤ s.2) && decide (s.2 < ((List.length p : Nat) : Int)))) (
       let x18 := List.getD p (Int.toNat s.2) default;
       let x19 := fofInt .f32 x17;
       let x20 := fne .f32 x18.Speed.Y x19;
       .ask x20
       (
        .leaf (.inr (.inl (-1)), []))
       (
        let x21 := IntKind.wrap .i64 (x17 + 1);
        .need ((decide (0 ≤ s.2) && decide (s.2 < ((List.length p : Nat) : Int)))) (
        let x22 := List.getD p (Int.toNat s.2) default;
        let x23 := fofInt .f32 x21;
        let x24 := fne .f32 x22.Speed.Z x23;
        .ask x24
        (
         .leaf (.inr (.inl (-1)), []))
        (
         let x25 := IntKind.wrap .i64 (x21 + 1);
         .need ((decide (0 ≤ s.2) && decide (s.2 < ((List.length p : Nat) : Int)))) (
         let x26 := List.getD p (Int.toNat s.2) default;
         let x27 := fofInt .f32 x25;
         let x28 := fne .f32 x26.Mass x27;
         .ask x28
         (
          .leaf (.inr (.inl (-1)), []))
         (
          let x29 := IntKind.wrap .i64 (x25 + 1);
          let x30 := IntKind.wrap .i64 (s.2 + 1);
          .leaf (.inl (x29, x30), []))))))))))))))))
  (
   .leaf (.inr (.inr s.1), []))
def laws_heldBodyS_loop0_L (p : List Body) : LoopS (Int × Int) ((Int) ⊕ (Int)) := { tl := fun s => [.vslc 1 .body p, .int .i64 s.1, .junk, .junk, .junk, .int .i64 s.2], hl := fun s => [], ex := fun r => match r with | .inl r => .ret | .inr r => .exit 0, otl := fun r => match r with | .inl r => [.junk, .junk, .junk, .junk, .int .i64 r] | .inr r => [.junk, .int .i64 r], ohl := fun r => match r with | .inl r => [] | .inr r => [] }
def laws_heldBodyS_loop0_ext : St → Option ((List Body) × (Int × Int) × List Nat) := fun S => match (S.tm 0).unK, (S.tm 1).unK, (S.tm 5).unK with
  | .vslc 1 .body q0, .int .i64 q1, .int .i64 q2 => some (q0, (q1, q2), [])
  | _, _, _ => none
def laws_heldBodyS_loop0_post (p : List Body) (r : (Int) ⊕ (Int)) : DT (Ex × St) := .ask (isL r) (.leaf (.ret, LSt [.junk, .junk, .junk, .junk, .int .i64 ((leftD r))] [])) (.leaf (.exit 0, LSt [.junk, .int .i64 ((rightD r))] []))
def laws_heldBodyS_loop0 (p : List Body) (s : Int × Int) : (Int) ⊕ (Int) := loopVal (laws_heldBodyS_loop0_step p) s
def laws_heldBodyS_loop0_ends (p : List Body) (s : Int × Int) : Bool := loopEnds (laws_heldBodyS_loop0_step p) s
def laws_heldBodyS_loop0_F : LoopF := loopF laws_heldBodyS_loop0_step laws_heldBodyS_loop0_ext laws_heldBodyS_loop0_post
theorem laws_heldBodyS_loop0_hext : ∀ S p s fl, laws_heldBodyS_loop0_ext S = some (p, s, fl) → Norm S fl ((laws_heldBodyS_loop0_L p).tl s) ((laws_heldBodyS_loop0_L p).hl s) (laws_heldBodyS_loop0_L p).gl := by
  intro S p s fl h
  unfold laws_heldBodyS_loop0_ext at h
  (repeat' split at h) <;> first
    | (cases h; constructor <;> simp_all [laws_heldBodyS_loop0_L, keepT, keepH, rens, renH, PV.ren, Blk.ren, fOf, lget, nodup, natIn, lenEq, gtm, PV.unK])
    | cases h
theorem laws_heldBodyS_loop0_hpost : ∀ p r e S', (laws_heldBodyS_loop0_post p r).get = some (e, S') → e = (laws_heldBodyS_loop0_L p).ex r ∧ S' = LSt ((laws_heldBodyS_loop0_L p).otl r) ((laws_heldBodyS_loop0_L p).ohl r) ((laws_heldBodyS_loop0_L p).ogl r) := by
  intro p r e S' h
  unfold laws_heldBodyS_loop0_post at h
  cases r <;> (simp only [isL, DT.get, Option.some.injEq, Prod.mk.injEq] at h; exact ⟨h.1.symm, h.2.symm⟩)

def laws_heldBodyS_loops : Nat → Option LoopF := loopTab [(2, laws_heldBodyS_loop0_F)]
set_option maxRecDepth 100000 in
theorem laws_heldBodyS_l0 : LoopOK Try.prog ⟨gam [], tab, 89, laws_heldBodyS_loops⟩ (lp Try.f20 0) :=
  loopOK_some (F := laws_heldBodyS_loop0_F) (by kernel_rfl) (loopF_ok (E := ⟨gam [], tab, 89, laws_heldBodyS_loops⟩) ⟨gam_nil, tab_ok, by kernel_rfl⟩ (fuel := 100000) (loopsOK_list (l := []) (by kernel_rfl) trivial) (L := laws_heldBodyS_loop0_L) (fun p s => by unfold AgreeL; exact ⟨by kernel_rfl, by kernel_rfl⟩) (fun _ r h => by cases r <;> exact Ex.noConfusion h) laws_heldBodyS_loop0_hext laws_heldBodyS_loop0_hpost)
/-- loop.example/g01284/laws.heldBodyS -/
def laws_heldBodyS_tree (a0 : List Body) (a1 : Int) : DT (Int) :=
  .need ((laws_heldBodyS_loop0_ends a0 (a1, 0))) (
  let x0 := laws_heldBodyS_loop0 a0 (a1, 0);
  .ask ((isL x0))
  (
   .leaf ((leftD x0)))
  (
   .leaf ((rightD x0))))
def laws_heldBodyS (a0 : List Body) (a1 : Int) : Int := (laws_heldBodyS_tree a0 a1).val
def laws_heldBodyS_need (a0 : List Body) (a1 : Int) : Bool := (laws_heldBodyS_tree a0 a1).ok
def laws_heldBodyS_mk (p : Int) : Ret := ⟨.int .i64 p, []⟩
def laws_heldBodyS_c0 : Con := fun args => match args with
  | [.vslc 1 .body a0, .int .i64 a1] => some (.need (laws_heldBodyS_need a0 a1) (.leaf (laws_heldBodyS_mk (laws_heldBodyS a0 a1))))
  | _ => none
set_option maxRecDepth 100000 in
theorem laws_heldBodyS_ok0 : FunOK Try.prog 20 laws_heldBodyS_c0.fn := by
  refine con_ok (Γ := gam []) (gam_nil) tab_ok (by kernel_rfl) Try.func20 (by kernel_rfl) (by kernel_rfl) Try.ntmps20 Try.results20 (loops := laws_heldBodyS_loops) (loopsOK_list (l := [lp Try.f20 0]) (by kernel_rfl) ⟨laws_heldBodyS_l0, trivial⟩) 100000 fun args t h => ?_
  unfold laws_heldBodyS_c0 at h
  split at h
  · rename_i a0 a1
    cases h
    exact ⟨rfl, agree_need (mk := laws_heldBodyS_mk) (t := laws_heldBodyS_tree a0 a1) (by unfold Agree; kernel_rfl)⟩
  · cases h
def laws_heldBodyS_c : Con := fun args => laws_heldBodyS_c0 (norms 0 [.slc .body, .none] args)
set_option maxRecDepth 100000 in
theorem laws_heldBodyS_ok : FunOK Try.prog 20 laws_heldBodyS_c.fn := con_norm [.slc .body, .none] laws_heldBodyS_ok0

/-- a loop of laws_heldEntryS -/
def laws_heldEntryS_loop0_step (p : List Entry) (s : Int × Int) : Round (Int × Int) ((Int) ⊕ (Int)) :=
  let x0 := ((List.length p : Nat) : Int);
  let x1 := decide (s.2 < x0);
  .ask x1
  (
   .need ((decide (0 ≤ s.2) && decide (s.2 < ((List.length p : Nat) : Int)))) (
   let x2 := List.getD p (Int.toNat s.2) default;
   .need ((laws_markText_need s.1)) (
   let x3 := laws_markText s.1;
   let x4 := (!(x2.Name == x3));
   .ask x4
   (
    .leaf (.inr (.inl (-1)), []))
   (
    let x5 := IntKind.wrap .i64 (s.1 + 1);
    .need ((decide (0 ≤ s.2) && decide (s.2 < ((List.length p : Nat) : Int)))) (
    let x6 := List.getD p (Int.toNat s.2) default;
    let x7 := fofInt .f32 x5;
    let x8 := fne .f32 x6.Mass x7;
    .ask x8
    (
     .leaf (.inr (.inl (-1)), []))
    (
     let x9 := IntKind.wrap .i64 (x5 + 1);
     .need ((decide (0 ≤ s.2) && decide (s.2 < ((List.length p : Nat) : Int)))) (
     let x10 := List.getD p (Int.toNat s.2) default;
     let x11 := fofInt .f32 x9;
     let x12 := fne .f32 x10.Orb.Long x11;
     .ask x12
     (
      .leaf (.inr (.inl (-1)), []))
     (
      let x13 := IntKind.wrap .i64 (x9 + 1);
      .need ((decide (0 ≤ s.2) && decide (s.2 < ((List.length p : Nat) : Int)))) (
      let x14 := List.getD p (Int.toNat s.2) default;
      let x15 := fofInt .f32 x13;
      let x16 := fne .f32 x14.Orb.Round x15;
      .ask x16
      (
       .leaf (.inr (.inl (-1)), []))
      (
       let x17 := IntKind.wrap .i64 (x13 + 1);
       .need ((decide (0 ≤ s.2) && decide (s.2 < ((List.length p : Nat) : Int)))) (
       let x18 := List.getD p (Int.toNat s.2) default;
       let x19 := fofInt .f32 x17;
       let x20 := fne .f32 x18.Orb.Tilt x19;
       .ask x20
       (
        .leaf (.inr (.inl (-1)), []))
       (
        let x21 := IntKind.wrap .i64 (x17 + 1);
        .need ((decide (0 ≤ s.2) && decide (s.2 < ((List.length p : Nat) : Int)))) (
        let x22 := List.getD p (Int.toNat s.2) default;
        let x23 := fofInt .f32 x21;
        let x24 := fne .f32 x22.Orb.Node x23;
        .ask x24
        (
         .leaf (.inr (.inl (-1)), []))
        (
         let x25 := IntKind.wrap .i64 (x21 + 1);
         .need ((decide (0 ≤ s.2) && decide (s.2 < ((List.length p : Nat) : Int)))) (
         let x26 := List.getD p (Int.toNat s.2) default;
         let x27 := fofInt .f32 x25;
         let x28 := fne .f32 x26.Orb.Peri x27;
         .ask x28
         (
          .leaf (.inr (.inl (-1)), []))
         (
          let x29 := IntKind.wrap .i64 (x25 + 1);
          .need ((decide (0 ≤ s.2) && decide (s.2 < ((List.length p : Nat) : Int)))) (
          let x30 := List.getD p (Int.toNat s.2) default;
          let x31 := fofInt .f32 x29;
          let x32 := fne .f32 x30.Orb.Phase x31;
          .ask x32
          (
           .leaf (.inr (.inl (-1)), []))
          (
           let x33 := IntKind.wrap .i64 (x29 + 1);
           let x34 := IntKind.wrap .i64 (s.2 + 1);
           .leaf (.inl (x33, x34), [])))))))))))))))))))
  (
   .leaf (.inr (.inr s.1), []))
def laws_heldEntryS_loop0_L (p : List Entry) : LoopS (Int × Int) ((Int) ⊕ (Int)) := { tl := fun s => [.vslc 1 .entry p, .int .i64 s.1, .junk, .junk, .junk, .int .i64 s.2], hl := fun s => [], ex := fun r => match r with | .inl r => .ret | .inr r => .exit 0, otl := fun r => match r with | .inl r => [.junk, .junk, .junk, .junk, .int .i64 r] | .inr r => [.junk, .int .i64 r], ohl := fun r => match r with | .inl r => [] | .inr r => [] }
def laws_heldEntryS_loop0_ext : St → Option ((List Entry) × (Int × Int) × List Nat) := fun S => match (S.tm 0).unK, (S.tm 1).unK, (S.tm 5).unK with
  | .vslc 1 .entry q0, .int .i64 q1, .int .i64 q2 => some (q0, (q1, q2), [])
  | _, _, _ => none
def laws_heldEntryS_loop0_post (p : List Entry) (r : (Int) ⊕ (Int)) : DT (Ex × St) := .ask (isL r) (.leaf (.ret, LSt [.junk, .junk, .junk, .junk, .int .i64 ((leftD r))] [])) (.leaf (.exit 0, LSt [.junk, .int .i64 ((rightD r))] []))
def laws_heldEntryS_loop0 (p : List Entry) (s : Int × Int) : (Int) ⊕ (Int) := loopVal (laws_heldEntryS_loop0_step p) s
def laws_heldEntryS_loop0_ends (p : List Entry) (s : Int × Int) : Bool := loopEnds (laws_heldEntryS_loop0_step p) s
def laws_heldEntryS_loop0_F : LoopF := loopF laws_heldEntryS_loop0_step laws_heldEntryS_loop0_ext laws_heldEntryS_loop0_post
theorem laws_heldEntryS_loop0_hext : ∀ S p s fl, laws_heldEntryS_loop0_ext S = some (p, s, fl) → Norm S fl ((laws_heldEntryS_loop0_L p).tl s) ((laws_heldEntryS_loop0_L p).hl s) (laws_heldEntryS_loop0_L p).gl := by
  intro S p s fl h
  unfold laws_heldEntryS_loop0_ext at h
  (repeat' split at h) <;> first
    | (cases h; constructor <;> simp_all [laws_heldEntryS_loop0_L, keepT, keepH, rens, renH, PV.ren, Blk.ren, fOf, lget, nodup, natIn, lenEq, gtm, PV.unK])
    | cases h
theorem laws_heldEntryS_loop0_hpost : ∀ p r e S', (laws_heldEntryS_loop0_post p r).get = some (e, S') → e = (laws_heldEntryS_loop0_L p).ex r ∧ S' = LSt ((laws_heldEntryS_loop0_L p).otl r) ((laws_heldEntryS_loop0_L p).ohl r) ((laws_heldEntryS_loop0_L p).ogl r) := by
  intro p r e S' h
  unfold laws_heldEntryS_loop0_post at h
  cases r <;> (simp only [isL, DT.get, Option.some.injEq, Prod.mk.injEq] at h; exact ⟨h.1.symm, h.2.symm⟩)

def laws_heldEntryS_loops : Nat → Option LoopF := loopTab [(2, laws_heldEntryS_loop0_F)]
set_option maxRecDepth 100000 in
theorem laws_heldEntryS_l0 : LoopOK Try.prog ⟨gam [(33, laws_markText_c)], tab, 99, laws_heldEntryS_loops⟩ (lp Try.f21 0) :=
  loopOK_some (F := laws_heldEntryS_loop0_F) (by kernel_rfl) (loopF_ok (E := ⟨gam [(33, laws_markText_c)], tab, 99, laws_heldEntryS_loops⟩) ⟨gam_cons laws_markText_ok (gam_nil), tab_ok, by kernel_rfl⟩ (fuel := 100000) (loopsOK_list (l := []) (by kernel_rfl) trivial) (L := laws_heldEntryS_loop0_L) (fun p s => by unfold AgreeL; exact ⟨by kernel_rfl, by kernel_rfl⟩) (fun _ r h => by cases r <;> exact Ex.noConfusion h) laws_heldEntryS_loop0_hext laws_heldEntryS_loop0_hpost)
/-- loop.example/g01284/laws.heldEntryS -/
def laws_heldEntryS_tree (a0 : List Entry) (a1 : Int) : DT (Int) :=
  .need ((laws_heldEntryS_loop0_ends a0 (a1, 0))) (
  let x0 := laws_heldEntryS_loop0 a0 (a1, 0);
  .ask ((isL x0))
  (
   .leaf ((leftD x0)))
  (
   .leaf ((rightD x0))))
def laws_heldEntryS (a0 : List Entry) (a1 : Int) : Int := (laws_heldEntryS_tree a0 a1).val
def laws_heldEntryS_need (a0 : List Entry) (a1 : Int) : Bool := (laws_heldEntryS_tree a0 a1).ok
def laws_heldEntryS_mk (p : Int) : Ret := ⟨.int .i64 p, []⟩
def laws_heldEntryS_c0 : Con := fun args => match args with
  | [.vslc 1 .entry a0, .int .i64 a1] => some (.need (laws_heldEntryS_need a0 a1) (.leaf (laws_heldEntryS_mk (laws_heldEntryS a0 a1))))
  | _ => none
set_option maxRecDepth 100000 in
theorem laws_heldEntryS_ok0 : FunOK Try.prog 21 laws_heldEntryS_c0.fn := by
  refine con_ok (Γ := gam [(33, laws_markText_c)]) (gam_cons laws_markText_ok (gam_nil)) tab_ok (by kernel_rfl) Try.func21 (by kernel_rfl) (by kernel_rfl) Try.ntmps21 Try.results21 (loops := laws_heldEntryS_loops) (loopsOK_list (l := [lp Try.f21 0]) (by kernel_rfl) ⟨laws_heldEntryS_l0, trivial⟩) 100000 fun args t h => ?_
  unfold laws_heldEntryS_c0 at h
  split at h
  · rename_i a0 a1
    cases h
    exact ⟨rfl, agree_need (mk := laws_heldEntryS_mk) (t := laws_heldEntryS_tree a0 a1) (by unfold Agree; kernel_rfl)⟩
  · cases h
def laws_heldEntryS_c : Con := fun args => laws_heldEntryS_c0 (norms 0 [.slc .entry, .none] args)
set_option maxRecDepth 100000 in
theorem laws_heldEntryS_ok : FunOK Try.prog 21 laws_heldEntryS_c.fn := con_norm [.slc .entry, .none] laws_heldEntryS_ok0

end
end Go.Proofs.Ytacelaaifaffpaa
