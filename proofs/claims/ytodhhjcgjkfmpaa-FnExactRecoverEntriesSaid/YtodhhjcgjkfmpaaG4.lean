/- THE WALK, BY A PROGRAM: typed functions, and that the code is they. -/
import Derived.Test.YtodhhjcgjkfmpaaTab
namespace Go.Proofs.Ytodhhjcgjkfmpaa
set_option linter.unusedVariables false
set_option linter.unusedSimpArgs false
open Go.Extern
noncomputable section

set_option maxRecDepth 100000 in
theorem math_Float32frombits_ok : FunOK Try.prog 150 math_Float32frombits_c.fn := frombits32_ok (run_callFunc_extern Try.func150 (by kernel_rfl) (by kernel_rfl) (by kernel_rfl) (by kernel_rfl))

set_option maxRecDepth 100000 in
theorem math_Float32bits_ok : FunOK Try.prog 225 math_Float32bits_c.fn := bits32_ok (run_callFunc_extern Try.func225 (by kernel_rfl) (by kernel_rfl) (by kernel_rfl) (by kernel_rfl))

set_option maxRecDepth 100000 in
theorem math_Float64bits_ok : FunOK Try.prog 207 math_Float64bits_c.fn := bits64_ok (run_callFunc_extern Try.func207 (by kernel_rfl) (by kernel_rfl) (by kernel_rfl) (by kernel_rfl))

set_option maxRecDepth 100000 in
theorem math_Float64frombits_ok : FunOK Try.prog 206 math_Float64frombits_c.fn := frombits64_ok (run_callFunc_extern Try.func206 (by kernel_rfl) (by kernel_rfl) (by kernel_rfl) (by kernel_rfl))

/-- loop.example/g01284/spec.l07Size -/
def spec_l07Size_tree (a0 : (List UInt8)) : DT (Int) :=
  let x0 := ((List.length a0 : Nat) : Int);
  let x1 := decide (x0 < 5);
  .ask x1
  (
   .leaf 0)
  (
   .need ((decide (0 ≤ 4) && decide (4 < ((List.length a0 : Nat) : Int)))) (
   let x2 := ((List.getD a0 4 0).toNat : Int);
   let x3 := IntKind.wrap .i64 x2;
   let x4 := IntKind.wrap .i64 (35 + x3);
   let x5 := ((List.length a0 : Nat) : Int);
   let x6 := decide (x4 > x5);
   .ask x6
   (
    .leaf 0)
   (
    .leaf x4)))
def spec_l07Size (a0 : (List UInt8)) : Int := (spec_l07Size_tree a0).val
def spec_l07Size_need (a0 : (List UInt8)) : Bool := (spec_l07Size_tree a0).ok
def spec_l07Size_mk (p : Int) : Ret := ⟨.int .i64 p, []⟩
def spec_l07Size_c : Con := fun args => match args with
  | [.str a0] => some (.need (spec_l07Size_need a0) (.leaf (spec_l07Size_mk (spec_l07Size a0))))
  | _ => none
set_option maxRecDepth 100000 in
theorem spec_l07Size_ok : FunOK Try.prog 67 spec_l07Size_c.fn := by
  refine con_ok (Γ := gam []) (gam_nil) tab_ok (by kernel_rfl) Try.func67 (by kernel_rfl) (by kernel_rfl) Try.ntmps67 Try.results67 (loopsOK_none rfl _) 100000 fun args t h => ?_
  unfold spec_l07Size_c at h
  split at h
  · rename_i a0
    cases h
    exact ⟨rfl, agree_need (mk := spec_l07Size_mk) (t := spec_l07Size_tree a0) (by unfold Agree; kernel_rfl)⟩
  · cases h

/-- loop.example/g01284/spec.l01From -/
def spec_l01From_tree (a0 : Int) : DT (Nat) :=
  let x0 := IntKind.wrap .u32 a0;
  let x1 := canon .f32 (Int.toNat x0);
  .leaf x1
def spec_l01From (a0 : Int) : Nat := (spec_l01From_tree a0).val
def spec_l01From_mk (p : Nat) : Ret := ⟨.flt .f32 p, []⟩
def spec_l01From_c : Con := fun args => match args with
  | [.int .i64 a0] => some (.leaf (spec_l01From_mk (spec_l01From a0)))
  | _ => none
set_option maxRecDepth 100000 in
theorem spec_l01From_ok : FunOK Try.prog 147 spec_l01From_c.fn := by
  refine con_ok (Γ := gam [(150, math_Float32frombits_c)]) (gam_cons math_Float32frombits_ok (gam_nil)) tab_ok (by kernel_rfl) Try.func147 (by kernel_rfl) (by kernel_rfl) Try.ntmps147 Try.results147 (loopsOK_none rfl _) 100000 fun args t h => ?_
  unfold spec_l01From_c at h
  split at h
  · rename_i a0
    cases h
    exact ⟨rfl, agree_tot (mk := spec_l01From_mk) (t := spec_l01From_tree a0) (by unfold Agree; kernel_rfl) (by kernel_rfl)⟩
  · cases h

/-- a loop of spec_l07Name -/
def spec_l07Name_loop0_step (p : (List UInt8)) (s : Int) : Round (Int) ((Unit) ⊕ (Unit)) :=
  let x0 := ((List.length p : Nat) : Int);
  let x1 := decide (s < x0);
  .ask x1
  (
   .need ((decide (0 ≤ s) && decide (s < ((List.length p : Nat) : Int)))) (
   let x2 := ((List.getD p (Int.toNat s) 0).toNat : Int);
   let x3 := decide (x2 < 97);
   .ask x3
   (
    .leaf (.inr (.inl ()), []))
   (
    .need ((decide (0 ≤ s) && decide (s < ((List.length p : Nat) : Int)))) (
    let x4 := ((List.getD p (Int.toNat s) 0).toNat : Int);
    let x5 := decide (x4 > 122);
    .ask x5
    (
     .leaf (.inr (.inl ()), []))
    (
     let x6 := IntKind.wrap .i64 (s + 1);
     .leaf (.inl x6, []))))))
  (
   .leaf (.inr (.inr ()), []))
def spec_l07Name_loop0_L (p : (List UInt8)) : LoopS (Int) ((Unit) ⊕ (Unit)) := { tl := fun s => [.str p, .junk, .junk, .int .i64 s], hl := fun s => [], ex := fun r => match r with | .inl r => .ret | .inr r => .exit 0, otl := fun r => match r with | .inl r => [.junk, .junk, .bool false] | .inr r => [.str p], ohl := fun r => match r with | .inl r => [] | .inr r => [] }
def spec_l07Name_loop0_ext : St → Option (((List UInt8)) × (Int) × List Nat) := fun S => match (S.tm 0).unK, (S.tm 3).unK with
  | .str q0, .int .i64 q1 => some (q0, q1, [])
  | _, _ => none
def spec_l07Name_loop0_post (p : (List UInt8)) (r : (Unit) ⊕ (Unit)) : DT (Ex × St) := .ask (isL r) (.leaf (.ret, LSt [.junk, .junk, .bool false] [])) (.leaf (.exit 0, LSt [.str p] []))
def spec_l07Name_loop0 (p : (List UInt8)) (s : Int) : (Unit) ⊕ (Unit) := loopVal (spec_l07Name_loop0_step p) s
def spec_l07Name_loop0_ends (p : (List UInt8)) (s : Int) : Bool := loopEnds (spec_l07Name_loop0_step p) s
def spec_l07Name_loop0_F : LoopF := loopF spec_l07Name_loop0_step spec_l07Name_loop0_ext spec_l07Name_loop0_post
theorem spec_l07Name_loop0_hext : ∀ S p s fl, spec_l07Name_loop0_ext S = some (p, s, fl) → Norm S fl ((spec_l07Name_loop0_L p).tl s) ((spec_l07Name_loop0_L p).hl s) (spec_l07Name_loop0_L p).gl := by
  intro S p s fl h
  unfold spec_l07Name_loop0_ext at h
  (repeat' split at h) <;> first
    | (cases h; constructor <;> simp_all [spec_l07Name_loop0_L, keepT, keepH, rens, renH, PV.ren, Blk.ren, fOf, lget, nodup, natIn, lenEq, gtm, PV.unK])
    | cases h
theorem spec_l07Name_loop0_hpost : ∀ p r e S', (spec_l07Name_loop0_post p r).get = some (e, S') → e = (spec_l07Name_loop0_L p).ex r ∧ S' = LSt ((spec_l07Name_loop0_L p).otl r) ((spec_l07Name_loop0_L p).ohl r) ((spec_l07Name_loop0_L p).ogl r) := by
  intro p r e S' h
  unfold spec_l07Name_loop0_post at h
  cases r <;> (simp only [isL, DT.get, Option.some.injEq, Prod.mk.injEq] at h; exact ⟨h.1.symm, h.2.symm⟩)

def spec_l07Name_loops : Nat → Option LoopF := loopTab [(2, spec_l07Name_loop0_F)]
set_option maxRecDepth 100000 in
theorem spec_l07Name_l0 : LoopOK Try.prog ⟨gam [], tab, 28, spec_l07Name_loops⟩ (lp Try.f202 0) :=
  loopOK_some (F := spec_l07Name_loop0_F) (by kernel_rfl) (loopF_ok (E := ⟨gam [], tab, 28, spec_l07Name_loops⟩) ⟨gam_nil, tab_ok, by kernel_rfl⟩ (fuel := 100000) (loopsOK_list (l := []) (by kernel_rfl) trivial) (L := spec_l07Name_loop0_L) (fun p s => by unfold AgreeL; exact ⟨by kernel_rfl, by kernel_rfl⟩) (fun _ r h => by cases r <;> exact Ex.noConfusion h) spec_l07Name_loop0_hext spec_l07Name_loop0_hpost)
/-- loop.example/g01284/spec.l07Name -/
def spec_l07Name_tree (a0 : (List UInt8)) : DT (Bool) :=
  .need ((spec_l07Name_loop0_ends a0 0)) (
  let x0 := spec_l07Name_loop0 a0 0;
  .ask ((isL x0))
  (
   .leaf false)
  (
   let x1 := ((List.length a0 : Nat) : Int);
   let x2 := decide (x1 ≥ 1);
   .ask x2
   (
    let x3 := ((List.length a0 : Nat) : Int);
    let x4 := decide (x3 ≤ 8);
    .leaf x4)
   (
    .leaf false)))
def spec_l07Name (a0 : (List UInt8)) : Bool := (spec_l07Name_tree a0).val
def spec_l07Name_need (a0 : (List UInt8)) : Bool := (spec_l07Name_tree a0).ok
def spec_l07Name_mk (p : Bool) : Ret := ⟨.bool p, []⟩
def spec_l07Name_c : Con := fun args => match args with
  | [.str a0] => some (.need (spec_l07Name_need a0) (.leaf (spec_l07Name_mk (spec_l07Name a0))))
  | _ => none
set_option maxRecDepth 100000 in
theorem spec_l07Name_ok : FunOK Try.prog 202 spec_l07Name_c.fn := by
  refine con_ok (Γ := gam []) (gam_nil) tab_ok (by kernel_rfl) Try.func202 (by kernel_rfl) (by kernel_rfl) Try.ntmps202 Try.results202 (loops := spec_l07Name_loops) (loopsOK_list (l := [lp Try.f202 0]) (by kernel_rfl) ⟨spec_l07Name_l0, trivial⟩) 100000 fun args t h => ?_
  unfold spec_l07Name_c at h
  split at h
  · rename_i a0
    cases h
    exact ⟨rfl, agree_need (mk := spec_l07Name_mk) (t := spec_l07Name_tree a0) (by unfold Agree; kernel_rfl)⟩
  · cases h

/-- loop.example/g01284/spec.l01Finite -/
def spec_l01Finite_tree (a0 : Nat) : DT (Bool) :=
  let x0 := fsub .f32 a0 a0;
  let x1 := feq .f32 x0 0;
  .leaf x1
def spec_l01Finite (a0 : Nat) : Bool := (spec_l01Finite_tree a0).val
def spec_l01Finite_mk (p : Bool) : Ret := ⟨.bool p, []⟩
def spec_l01Finite_c : Con := fun args => match args with
  | [.flt .f32 a0] => some (.leaf (spec_l01Finite_mk (spec_l01Finite a0)))
  | _ => none
set_option maxRecDepth 100000 in
theorem spec_l01Finite_ok : FunOK Try.prog 88 spec_l01Finite_c.fn := by
  refine con_ok (Γ := gam []) (gam_nil) tab_ok (by kernel_rfl) Try.func88 (by kernel_rfl) (by kernel_rfl) Try.ntmps88 Try.results88 (loopsOK_none rfl _) 100000 fun args t h => ?_
  unfold spec_l01Finite_c at h
  split at h
  · rename_i a0
    cases h
    exact ⟨rfl, agree_tot (mk := spec_l01Finite_mk) (t := spec_l01Finite_tree a0) (by unfold Agree; kernel_rfl) (by kernel_rfl)⟩
  · cases h

/-- loop.example/g01284/spec.l02Above -/
def spec_l02Above_tree (a0 : Nat) : DT (Bool) :=
  let x0 := spec_l01Finite a0;
  .ask x0
  (
   let x1 := fgt .f32 a0 0;
   .leaf x1)
  (
   .leaf false)
def spec_l02Above (a0 : Nat) : Bool := (spec_l02Above_tree a0).val
def spec_l02Above_mk (p : Bool) : Ret := ⟨.bool p, []⟩
def spec_l02Above_c : Con := fun args => match args with
  | [.flt .f32 a0] => some (.leaf (spec_l02Above_mk (spec_l02Above a0)))
  | _ => none
set_option maxRecDepth 100000 in
theorem spec_l02Above_ok : FunOK Try.prog 100 spec_l02Above_c.fn := by
  refine con_ok (Γ := gam [(88, spec_l01Finite_c)]) (gam_cons spec_l01Finite_ok (gam_nil)) tab_ok (by kernel_rfl) Try.func100 (by kernel_rfl) (by kernel_rfl) Try.ntmps100 Try.results100 (loopsOK_none rfl _) 100000 fun args t h => ?_
  unfold spec_l02Above_c at h
  split at h
  · rename_i a0
    cases h
    exact ⟨rfl, agree_tot (mk := spec_l02Above_mk) (t := spec_l02Above_tree a0) (by unfold Agree; kernel_rfl) (by kernel_rfl)⟩
  · cases h

/-- loop.example/g01284/spec.l03Turn -/
def spec_l03Turn_tree (a0 : Nat) : DT (Bool) :=
  let x0 := fge .f32 a0 0;
  .ask x0
  (
   let x1 := flt .f32 a0 1065353216;
   .leaf x1)
  (
   .leaf false)
def spec_l03Turn (a0 : Nat) : Bool := (spec_l03Turn_tree a0).val
def spec_l03Turn_mk (p : Bool) : Ret := ⟨.bool p, []⟩
def spec_l03Turn_c : Con := fun args => match args with
  | [.flt .f32 a0] => some (.leaf (spec_l03Turn_mk (spec_l03Turn a0)))
  | _ => none
set_option maxRecDepth 100000 in
theorem spec_l03Turn_ok : FunOK Try.prog 153 spec_l03Turn_c.fn := by
  refine con_ok (Γ := gam []) (gam_nil) tab_ok (by kernel_rfl) Try.func153 (by kernel_rfl) (by kernel_rfl) Try.ntmps153 Try.results153 (loopsOK_none rfl _) 100000 fun args t h => ?_
  unfold spec_l03Turn_c at h
  split at h
  · rename_i a0
    cases h
    exact ⟨rfl, agree_tot (mk := spec_l03Turn_mk) (t := spec_l03Turn_tree a0) (by unfold Agree; kernel_rfl) (by kernel_rfl)⟩
  · cases h

/-- loop.example/g01284/spec.l03Is -/
def spec_l03Is_tree (a0 : Orbit) : DT (Bool) :=
  let x0 := spec_l01Finite a0.Long;
  .ask (!x0)
  (
   .leaf false)
  (
   let x1 := spec_l01Finite a0.Round;
   .ask (!x1)
   (
    .leaf false)
   (
    let x2 := fge .f32 a0.Tilt 0;
    .ask x2
    (
     let x3 := fle .f32 a0.Tilt 1056964608;
     .ask (!x3)
     (
      .leaf false)
     (
      let x4 := spec_l03Turn a0.Node;
      .ask (!x4)
      (
       .leaf false)
      (
       let x5 := spec_l03Turn a0.Peri;
       .ask (!x5)
       (
        .leaf false)
       (
        let x6 := fgt .f32 a0.Long 0;
        .ask x6
        (
         let x7 := fge .f32 a0.Round 0;
         .ask x7
         (
          let x8 := flt .f32 a0.Round 1065353216;
          .ask x8
          (
           let x9 := spec_l03Turn a0.Phase;
           .leaf x9)
          (
           .leaf false))
         (
          .leaf false))
        (
         let x7 := flt .f32 a0.Long 0;
         .ask x7
         (
          let x8 := fgt .f32 a0.Round 1065353216;
          .ask x8
          (
           let x9 := fge .f32 a0.Phase 3246391296;
           .ask x9
           (
            let x10 := fle .f32 a0.Phase 1098907648;
            .leaf x10)
           (
            .leaf false))
          (
           .leaf false))
         (
          .leaf false))))))
    (
     .leaf false)))
def spec_l03Is (a0 : Orbit) : Bool := (spec_l03Is_tree a0).val
def spec_l03Is_mk (p : Bool) : Ret := ⟨.bool p, []⟩
def spec_l03Is_c0 : Con := fun args => match args with
  | [.vcell [.flt .f32 a0_0, .flt .f32 a0_1, .flt .f32 a0_2, .flt .f32 a0_3, .flt .f32 a0_4, .flt .f32 a0_5] 0] => some (.leaf (spec_l03Is_mk (spec_l03Is (⟨a0_0, a0_1, a0_2, a0_3, a0_4, a0_5⟩ : Orbit))))
  | _ => none
set_option maxRecDepth 100000 in
theorem spec_l03Is_ok0 : FunOK Try.prog 72 spec_l03Is_c0.fn := by
  refine con_ok (Γ := gam [(88, spec_l01Finite_c), (153, spec_l03Turn_c)]) (gam_cons spec_l01Finite_ok (gam_cons spec_l03Turn_ok (gam_nil))) tab_ok (by kernel_rfl) Try.func72 (by kernel_rfl) (by kernel_rfl) Try.ntmps72 Try.results72 (loopsOK_none rfl _) 100000 fun args t h => ?_
  unfold spec_l03Is_c0 at h
  split at h
  · rename_i a0_0 a0_1 a0_2 a0_3 a0_4 a0_5
    cases h
    exact ⟨rfl, agree_tot (mk := spec_l03Is_mk) (t := spec_l03Is_tree (⟨a0_0, a0_1, a0_2, a0_3, a0_4, a0_5⟩ : Orbit)) (by unfold Agree; kernel_rfl) (by kernel_rfl)⟩
  · cases h
def spec_l03Is_c : Con := fun args => spec_l03Is_c0 (norms 0 [.ptr 6] args)
set_option maxRecDepth 100000 in
theorem spec_l03Is_ok : FunOK Try.prog 72 spec_l03Is_c.fn := con_norm [.ptr 6] spec_l03Is_ok0

/-- loop.example/g01284/spec.l07Entry -/
def spec_l07Entry_tree (a0 : Entry) : DT (Bool) :=
  .need ((spec_l07Name_need a0.Name)) (
  let x0 := spec_l07Name a0.Name;
  .ask x0
  (
   let x1 := spec_l02Above a0.Mass;
   .ask x1
   (
    let x2 := spec_l03Is (⟨a0.Orb.Long, a0.Orb.Round, a0.Orb.Tilt, a0.Orb.Node, a0.Orb.Peri, a0.Orb.Phase⟩ : Orbit);
    .leaf x2)
   (
    .leaf false))
  (
   .leaf false))
def spec_l07Entry (a0 : Entry) : Bool := (spec_l07Entry_tree a0).val
def spec_l07Entry_need (a0 : Entry) : Bool := (spec_l07Entry_tree a0).ok
def spec_l07Entry_mk (p : Bool) : Ret := ⟨.bool p, []⟩
def spec_l07Entry_c0 : Con := fun args => match args with
  | [.vcell [.str a0_0, .flt .f32 a0_1, .flt .f32 a0_2, .flt .f32 a0_3, .flt .f32 a0_4, .flt .f32 a0_5, .flt .f32 a0_6, .flt .f32 a0_7] 0] => some (.need (spec_l07Entry_need (⟨a0_0, a0_1, ⟨a0_2, a0_3, a0_4, a0_5, a0_6, a0_7⟩⟩ : Entry)) (.leaf (spec_l07Entry_mk (spec_l07Entry (⟨a0_0, a0_1, ⟨a0_2, a0_3, a0_4, a0_5, a0_6, a0_7⟩⟩ : Entry)))))
  | _ => none
set_option maxRecDepth 100000 in
theorem spec_l07Entry_ok0 : FunOK Try.prog 148 spec_l07Entry_c0.fn := by
  refine con_ok (Γ := gam [(202, spec_l07Name_c), (100, spec_l02Above_c), (72, spec_l03Is_c)]) (gam_cons spec_l07Name_ok (gam_cons spec_l02Above_ok (gam_cons spec_l03Is_ok (gam_nil)))) tab_ok (by kernel_rfl) Try.func148 (by kernel_rfl) (by kernel_rfl) Try.ntmps148 Try.results148 (loopsOK_none rfl _) 100000 fun args t h => ?_
  unfold spec_l07Entry_c0 at h
  split at h
  · rename_i a0_0 a0_1 a0_2 a0_3 a0_4 a0_5 a0_6 a0_7
    cases h
    exact ⟨rfl, agree_need (mk := spec_l07Entry_mk) (t := spec_l07Entry_tree (⟨a0_0, a0_1, ⟨a0_2, a0_3, a0_4, a0_5, a0_6, a0_7⟩⟩ : Entry)) (by unfold Agree; kernel_rfl)⟩
  · cases h
def spec_l07Entry_c : Con := fun args => spec_l07Entry_c0 (norms 0 [.ptr 8] args)
set_option maxRecDepth 100000 in
theorem spec_l07Entry_ok : FunOK Try.prog 148 spec_l07Entry_c.fn := con_norm [.ptr 8] spec_l07Entry_ok0

/-- loop.example/g01284/spec.l07Numbers -/
def spec_l07Numbers_tree (a0 : Entry) : DT (List Nat) :=
  .leaf ([a0.Mass, a0.Orb.Long, a0.Orb.Round, a0.Orb.Tilt, a0.Orb.Node, a0.Orb.Peri, a0.Orb.Phase])
def spec_l07Numbers (a0 : Entry) : List Nat := (spec_l07Numbers_tree a0).val
def spec_l07Numbers_mk (p : List Nat) : Ret := ⟨.own 0, [.typed 28 (.flt .f32) p]⟩
def spec_l07Numbers_c0 : Con := fun args => match args with
  | [.vcell [.str a0_0, .flt .f32 a0_1, .flt .f32 a0_2, .flt .f32 a0_3, .flt .f32 a0_4, .flt .f32 a0_5, .flt .f32 a0_6, .flt .f32 a0_7] 0] => some (.leaf (spec_l07Numbers_mk (spec_l07Numbers (⟨a0_0, a0_1, ⟨a0_2, a0_3, a0_4, a0_5, a0_6, a0_7⟩⟩ : Entry))))
  | _ => none
set_option maxRecDepth 100000 in
theorem spec_l07Numbers_ok0 : FunOK Try.prog 203 spec_l07Numbers_c0.fn := by
  refine con_ok (Γ := gam []) (gam_nil) tab_ok (by kernel_rfl) Try.func203 (by kernel_rfl) (by kernel_rfl) Try.ntmps203 Try.results203 (loopsOK_none rfl _) 100000 fun args t h => ?_
  unfold spec_l07Numbers_c0 at h
  split at h
  · rename_i a0_0 a0_1 a0_2 a0_3 a0_4 a0_5 a0_6 a0_7
    cases h
    exact ⟨rfl, agree_tot (mk := spec_l07Numbers_mk) (t := spec_l07Numbers_tree (⟨a0_0, a0_1, ⟨a0_2, a0_3, a0_4, a0_5, a0_6, a0_7⟩⟩ : Entry)) (by unfold Agree; kernel_rfl) (by kernel_rfl)⟩
  · cases h
def spec_l07Numbers_c : Con := fun args => spec_l07Numbers_c0 (norms 0 [.ptr 8] args)
set_option maxRecDepth 100000 in
theorem spec_l07Numbers_ok : FunOK Try.prog 203 spec_l07Numbers_c.fn := con_norm [.ptr 8] spec_l07Numbers_ok0

/-- loop.example/g01284/spec.l01Bits -/
def spec_l01Bits_tree (a0 : Nat) : DT (Int) :=
  let x0 := fne .f32 a0 a0;
  .ask x0
  (
   .leaf 2143289344)
  (
   .need ((!isNaN .f32 a0)) (
   let x1 := IntKind.wrap .i64 ((a0 : Nat) : Int);
   .leaf x1))
def spec_l01Bits (a0 : Nat) : Int := (spec_l01Bits_tree a0).val
def spec_l01Bits_need (a0 : Nat) : Bool := (spec_l01Bits_tree a0).ok
def spec_l01Bits_mk (p : Int) : Ret := ⟨.int .i64 p, []⟩
def spec_l01Bits_c : Con := fun args => match args with
  | [.flt .f32 a0] => some (.need (spec_l01Bits_need a0) (.leaf (spec_l01Bits_mk (spec_l01Bits a0))))
  | _ => none
set_option maxRecDepth 100000 in
theorem spec_l01Bits_ok : FunOK Try.prog 226 spec_l01Bits_c.fn := by
  refine con_ok (Γ := gam [(225, math_Float32bits_c)]) (gam_cons math_Float32bits_ok (gam_nil)) tab_ok (by kernel_rfl) Try.func226 (by kernel_rfl) (by kernel_rfl) Try.ntmps226 Try.results226 (loopsOK_none rfl _) 100000 fun args t h => ?_
  unfold spec_l01Bits_c at h
  split at h
  · rename_i a0
    cases h
    exact ⟨rfl, agree_need (mk := spec_l01Bits_mk) (t := spec_l01Bits_tree a0) (by unfold Agree; kernel_rfl)⟩
  · cases h

/-- loop.example/g01284/spec.l07Four -/
def spec_l07Four_tree (a0 : Nat) : DT (List Int) :=
  .need ((spec_l01Bits_need a0)) (
  let x0 := spec_l01Bits a0;
  .skip (
  let x1 := Int.tmod x0 256;
  let x2 := IntKind.wrap .u8 x1;
  .skip (
  let x3 := IntKind.wrap .i64 (Int.tdiv x0 256);
  .skip (
  let x4 := Int.tmod x3 256;
  let x5 := IntKind.wrap .u8 x4;
  .skip (
  let x6 := IntKind.wrap .i64 (Int.tdiv x0 65536);
  .skip (
  let x7 := Int.tmod x6 256;
  let x8 := IntKind.wrap .u8 x7;
  .skip (
  let x9 := IntKind.wrap .i64 (Int.tdiv x0 16777216);
  let x10 := IntKind.wrap .u8 x9;
  .leaf ([x2, x5, x8, x10]))))))))
def spec_l07Four (a0 : Nat) : List Int := (spec_l07Four_tree a0).val
def spec_l07Four_need (a0 : Nat) : Bool := (spec_l07Four_tree a0).ok
def spec_l07Four_mk (p : List Int) : Ret := ⟨.own 0, [.typed 5 (.int .u8) p]⟩
def spec_l07Four_c : Con := fun args => match args with
  | [.flt .f32 a0] => some (.need (spec_l07Four_need a0) (.leaf (spec_l07Four_mk (spec_l07Four a0))))
  | _ => none
set_option maxRecDepth 100000 in
theorem spec_l07Four_ok : FunOK Try.prog 204 spec_l07Four_c.fn := by
  refine con_ok (Γ := gam [(226, spec_l01Bits_c)]) (gam_cons spec_l01Bits_ok (gam_nil)) tab_ok (by kernel_rfl) Try.func204 (by kernel_rfl) (by kernel_rfl) Try.ntmps204 Try.results204 (loopsOK_none rfl _) 100000 fun args t h => ?_
  unfold spec_l07Four_c at h
  split at h
  · rename_i a0
    cases h
    exact ⟨rfl, agree_need (mk := spec_l07Four_mk) (t := spec_l07Four_tree a0) (by unfold Agree; kernel_rfl)⟩
  · cases h

/-- a loop of spec_l01Check -/
def spec_l01Check_loop0_step (p : (List UInt8)) (s : Int × Int) : Round (Int × Int) (Int) :=
  let x0 := ((List.length p : Nat) : Int);
  let x1 := decide (s.2 < x0);
  .ask x1
  (
   let x2 := IntKind.wrap .i64 (809 * s.1);
   .need ((decide (0 ≤ s.2) && decide (s.2 < ((List.length p : Nat) : Int)))) (
   let x3 := ((List.getD p (Int.toNat s.2) 0).toNat : Int);
   let x4 := IntKind.wrap .i64 x3;
   let x5 := IntKind.wrap .i64 (x2 + x4);
   let x6 := IntKind.wrap .i64 (x5 + 103);
   .skip (
   let x7 := Int.tmod x6 65003;
   let x8 := IntKind.wrap .i64 (s.2 + 1);
   .leaf (.inl (x7, x8), []))))
  (
   .leaf (.inr s.1, []))
def spec_l01Check_loop0_L (p : (List UInt8)) : LoopS (Int × Int) (Int) := { tl := fun s => [.int .i64 s.1, .str p, .junk, .junk, .junk, .int .i64 s.2], hl := fun s => [], ex := fun r => .exit 0, otl := fun r => [.int .i64 r], ohl := fun r => [] }
def spec_l01Check_loop0_ext : St → Option (((List UInt8)) × (Int × Int) × List Nat) := fun S => match (S.tm 0).unK, (S.tm 1).unK, (S.tm 5).unK with
  | .int .i64 q0, .str q1, .int .i64 q2 => some (q1, (q0, q2), [])
  | _, _, _ => none
def spec_l01Check_loop0_post (p : (List UInt8)) (r : Int) : DT (Ex × St) := .leaf (.exit 0, LSt [.int .i64 r] [])
def spec_l01Check_loop0 (p : (List UInt8)) (s : Int × Int) : Int := loopVal (spec_l01Check_loop0_step p) s
def spec_l01Check_loop0_ends (p : (List UInt8)) (s : Int × Int) : Bool := loopEnds (spec_l01Check_loop0_step p) s
def spec_l01Check_loop0_F : LoopF := loopF spec_l01Check_loop0_step spec_l01Check_loop0_ext spec_l01Check_loop0_post
theorem spec_l01Check_loop0_hext : ∀ S p s fl, spec_l01Check_loop0_ext S = some (p, s, fl) → Norm S fl ((spec_l01Check_loop0_L p).tl s) ((spec_l01Check_loop0_L p).hl s) (spec_l01Check_loop0_L p).gl := by
  intro S p s fl h
  unfold spec_l01Check_loop0_ext at h
  (repeat' split at h) <;> first
    | (cases h; constructor <;> simp_all [spec_l01Check_loop0_L, keepT, keepH, rens, renH, PV.ren, Blk.ren, fOf, lget, nodup, natIn, lenEq, gtm, PV.unK])
    | cases h
theorem spec_l01Check_loop0_hpost : ∀ p r e S', (spec_l01Check_loop0_post p r).get = some (e, S') → e = (spec_l01Check_loop0_L p).ex r ∧ S' = LSt ((spec_l01Check_loop0_L p).otl r) ((spec_l01Check_loop0_L p).ohl r) ((spec_l01Check_loop0_L p).ogl r) := by
  intro p r e S' h
  unfold spec_l01Check_loop0_post at h
  simp only [DT.get, Option.some.injEq, Prod.mk.injEq] at h; exact ⟨h.1.symm, h.2.symm⟩

def spec_l01Check_loops : Nat → Option LoopF := loopTab [(2, spec_l01Check_loop0_F)]
set_option maxRecDepth 100000 in
theorem spec_l01Check_l0 : LoopOK Try.prog ⟨gam [], tab, 22, spec_l01Check_loops⟩ (lp Try.f205 0) :=
  loopOK_some (F := spec_l01Check_loop0_F) (by kernel_rfl) (loopF_ok (E := ⟨gam [], tab, 22, spec_l01Check_loops⟩) ⟨gam_nil, tab_ok, by kernel_rfl⟩ (fuel := 100000) (loopsOK_list (l := []) (by kernel_rfl) trivial) (L := spec_l01Check_loop0_L) (fun p s => by unfold AgreeL; exact ⟨by kernel_rfl, by kernel_rfl⟩) (fun _ _ h => Ex.noConfusion h) spec_l01Check_loop0_hext spec_l01Check_loop0_hpost)
/-- loop.example/g01284/spec.l01Check -/
def spec_l01Check_tree (a0 : Int) (a1 : (List UInt8)) : DT (Int) :=
  .need ((spec_l01Check_loop0_ends a1 (a0, 0))) (
  let x0 := spec_l01Check_loop0 a1 (a0, 0);
  .leaf x0)
def spec_l01Check (a0 : Int) (a1 : (List UInt8)) : Int := (spec_l01Check_tree a0 a1).val
def spec_l01Check_need (a0 : Int) (a1 : (List UInt8)) : Bool := (spec_l01Check_tree a0 a1).ok
def spec_l01Check_mk (p : Int) : Ret := ⟨.int .i64 p, []⟩
def spec_l01Check_c : Con := fun args => match args with
  | [.int .i64 a0, .str a1] => some (.need (spec_l01Check_need a0 a1) (.leaf (spec_l01Check_mk (spec_l01Check a0 a1))))
  | _ => none
set_option maxRecDepth 100000 in
theorem spec_l01Check_ok : FunOK Try.prog 205 spec_l01Check_c.fn := by
  refine con_ok (Γ := gam []) (gam_nil) tab_ok (by kernel_rfl) Try.func205 (by kernel_rfl) (by kernel_rfl) Try.ntmps205 Try.results205 (loops := spec_l01Check_loops) (loopsOK_list (l := [lp Try.f205 0]) (by kernel_rfl) ⟨spec_l01Check_l0, trivial⟩) 100000 fun args t h => ?_
  unfold spec_l01Check_c at h
  split at h
  · rename_i a0 a1
    cases h
    exact ⟨rfl, agree_need (mk := spec_l01Check_mk) (t := spec_l01Check_tree a0 a1) (by unfold Agree; kernel_rfl)⟩
  · cases h

/-- a loop of spec_l07Store -/
def spec_l07Store_loop0_step (p : Int × List Nat) (s : Int × List Int) : Round (Int × List Int) (List Int) :=
  let x0 := decide (s.1 < p.1);
  .ask x0
  (
   .need ((decide (0 ≤ s.1) && decide (s.1 < ((List.length p.2 : Nat) : Int)))) (
   .need ((decide ((Int.toNat s.1) < List.length p.2))) (
   let x1 := List.getD p.2 (Int.toNat s.1) default;
   .need ((spec_l07Four_need x1)) (
   let x2 := spec_l07Four x1;
   .need ((decide ((List.length s.2 + List.length x2) * 1 ≤ 140737488355328) && decide (List.length s.2 + List.length x2 ≤ 9223372036854775807))) (
   let x3 := s.2 ++ x2;
   let x4 := IntKind.wrap .i64 (s.1 + 1);
   .leaf (.inl (x4, x3), [74, 1]))))))
  (
   .leaf (.inr s.2, [0]))
def spec_l07Store_loop0_L (p : Int × List Nat) : LoopS (Int × List Int) (List Int) := { tl := fun s => [.junk, .junk, .junk, .own 0, .own 1, .junk, .junk, .junk, .junk, .junk, .junk, .junk, .junk, .junk, .junk, .junk, .junk, .junk, .junk, .junk, .junk, .junk, .junk, .junk, .junk, .junk, .junk, .int .i64 p.1, .int .i64 s.1], hl := fun s => [some (.typed 5 (.int .u8) s.2), some (.typed 28 (.flt .f32) p.2)], ex := fun r => .exit 0, otl := fun r => [.junk, .junk, .junk, .own 0], ohl := fun r => [some (.typed 5 (.int .u8) r)] }
def spec_l07Store_loop0_ext : St → Option ((Int × List Nat) × (Int × List Int) × List Nat) := fun S => match (S.tm 3).unK, (S.tm 4).unK, (S.tm 27).unK, (S.tm 28).unK with
  | .own i0, .own i1, .int .i64 q0, .int .i64 q1 => (match S.hp i0 with
    | some (.typed 5 (.int .u8) q2) => (match S.hp i1 with
    | some (.typed 28 (.flt .f32) q3) => (if nodup [i0, i1] = true then some ((q0, q3), (q1, q2), [i0, i1]) else none)
    | _ => none)
    | _ => none)
  | _, _, _, _ => none
def spec_l07Store_loop0_post (p : Int × List Nat) (r : List Int) : DT (Ex × St) := .leaf (.exit 0, LSt [.junk, .junk, .junk, .own 0] [some (.typed 5 (.int .u8) r)])
def spec_l07Store_loop0 (p : Int × List Nat) (s : Int × List Int) : List Int := loopVal (spec_l07Store_loop0_step p) s
def spec_l07Store_loop0_ends (p : Int × List Nat) (s : Int × List Int) : Bool := loopEnds (spec_l07Store_loop0_step p) s
def spec_l07Store_loop0_F : LoopF := loopF spec_l07Store_loop0_step spec_l07Store_loop0_ext spec_l07Store_loop0_post
theorem spec_l07Store_loop0_hext : ∀ S p s fl, spec_l07Store_loop0_ext S = some (p, s, fl) → Norm S fl ((spec_l07Store_loop0_L p).tl s) ((spec_l07Store_loop0_L p).hl s) (spec_l07Store_loop0_L p).gl := by
  intro S p s fl h
  unfold spec_l07Store_loop0_ext at h
  (repeat' split at h) <;> first
    | (cases h; constructor <;> simp_all [spec_l07Store_loop0_L, keepT, keepH, rens, renH, PV.ren, Blk.ren, fOf, lget, nodup, natIn, lenEq, gtm, PV.unK])
    | cases h
theorem spec_l07Store_loop0_hpost : ∀ p r e S', (spec_l07Store_loop0_post p r).get = some (e, S') → e = (spec_l07Store_loop0_L p).ex r ∧ S' = LSt ((spec_l07Store_loop0_L p).otl r) ((spec_l07Store_loop0_L p).ohl r) ((spec_l07Store_loop0_L p).ogl r) := by
  intro p r e S' h
  unfold spec_l07Store_loop0_post at h
  simp only [DT.get, Option.some.injEq, Prod.mk.injEq] at h; exact ⟨h.1.symm, h.2.symm⟩

def spec_l07Store_loops : Nat → Option LoopF := loopTab [(5, spec_l07Store_loop0_F)]
set_option maxRecDepth 100000 in
theorem spec_l07Store_l0 : LoopOK Try.prog ⟨gam [(203, spec_l07Numbers_c), (204, spec_l07Four_c), (205, spec_l01Check_c)], tab, 52, spec_l07Store_loops⟩ (lp Try.f149 0) :=
  loopOK_some (F := spec_l07Store_loop0_F) (by kernel_rfl) (loopF_ok (E := ⟨gam [(203, spec_l07Numbers_c), (204, spec_l07Four_c), (205, spec_l01Check_c)], tab, 52, spec_l07Store_loops⟩) ⟨gam_cons spec_l07Numbers_ok (gam_cons spec_l07Four_ok (gam_cons spec_l01Check_ok (gam_nil))), tab_ok, by kernel_rfl⟩ (fuel := 100000) (loopsOK_list (l := []) (by kernel_rfl) trivial) (L := spec_l07Store_loop0_L) (fun p s => by unfold AgreeL; exact ⟨by kernel_rfl, by kernel_rfl⟩) (fun _ _ h => Ex.noConfusion h) spec_l07Store_loop0_hext spec_l07Store_loop0_hpost)
/-- loop.example/g01284/spec.l07Store -/
def spec_l07Store_tree (a0 : Entry) : DT ((List UInt8)) :=
  .skip (
  let x0 := ((List.length a0.Name : Nat) : Int);
  let x1 := IntKind.wrap .u8 x0;
  .skip (
  let x2 := [79, 82, 66, 49] ++ [x1];
  .need ((decide (List.length a0.Name ≤ 140737488355328))) (
  let x3 := u8i a0.Name;
  .need ((decide ((List.length x2 + List.length x3) * 1 ≤ 140737488355328) && decide (List.length x2 + List.length x3 ≤ 9223372036854775807))) (
  let x4 := x2 ++ x3;
  let x5 := spec_l07Numbers (⟨a0.Name, a0.Mass, ⟨a0.Orb.Long, a0.Orb.Round, a0.Orb.Tilt, a0.Orb.Node, a0.Orb.Peri, a0.Orb.Phase⟩⟩ : Entry);
  let x6 := ((List.length x5 : Nat) : Int);
  .need ((spec_l07Store_loop0_ends (x6, x5) (0, x4))) (
  let x7 := spec_l07Store_loop0 (x6, x5) (0, x4);
  let x8 := strOf x7;
  .need ((spec_l01Check_need 0 x8)) (
  let x9 := spec_l01Check 0 x8;
  .skip (
  let x10 := Int.tmod x9 256;
  let x11 := IntKind.wrap .u8 x10;
  .skip (
  let x12 := IntKind.wrap .i64 (Int.tdiv x9 256);
  let x13 := IntKind.wrap .u8 x12;
  .need ((decide ((List.length x7 + List.length [x11, x13]) * 1 ≤ 140737488355328) && decide (List.length x7 + List.length [x11, x13] ≤ 9223372036854775807))) (
  let x14 := x7 ++ [x11, x13];
  let x15 := strOf x14;
  .leaf x15)))))))))
def spec_l07Store (a0 : Entry) : (List UInt8) := (spec_l07Store_tree a0).val
def spec_l07Store_need (a0 : Entry) : Bool := (spec_l07Store_tree a0).ok
def spec_l07Store_mk (p : (List UInt8)) : Ret := ⟨.str p, []⟩
def spec_l07Store_c0 : Con := fun args => match args with
  | [.vcell [.str a0_0, .flt .f32 a0_1, .flt .f32 a0_2, .flt .f32 a0_3, .flt .f32 a0_4, .flt .f32 a0_5, .flt .f32 a0_6, .flt .f32 a0_7] 0] => some (.need (spec_l07Store_need (⟨a0_0, a0_1, ⟨a0_2, a0_3, a0_4, a0_5, a0_6, a0_7⟩⟩ : Entry)) (.leaf (spec_l07Store_mk (spec_l07Store (⟨a0_0, a0_1, ⟨a0_2, a0_3, a0_4, a0_5, a0_6, a0_7⟩⟩ : Entry)))))
  | _ => none
set_option maxRecDepth 100000 in
theorem spec_l07Store_ok0 : FunOK Try.prog 149 spec_l07Store_c0.fn := by
  refine con_ok (Γ := gam [(203, spec_l07Numbers_c), (204, spec_l07Four_c), (205, spec_l01Check_c)]) (gam_cons spec_l07Numbers_ok (gam_cons spec_l07Four_ok (gam_cons spec_l01Check_ok (gam_nil)))) tab_ok (by kernel_rfl) Try.func149 (by kernel_rfl) (by kernel_rfl) Try.ntmps149 Try.results149 (loops := spec_l07Store_loops) (loopsOK_list (l := [lp Try.f149 0]) (by kernel_rfl) ⟨spec_l07Store_l0, trivial⟩) 100000 fun args t h => ?_
  unfold spec_l07Store_c0 at h
  split at h
  · rename_i a0_0 a0_1 a0_2 a0_3 a0_4 a0_5 a0_6 a0_7
    cases h
    exact ⟨rfl, agree_need (mk := spec_l07Store_mk) (t := spec_l07Store_tree (⟨a0_0, a0_1, ⟨a0_2, a0_3, a0_4, a0_5, a0_6, a0_7⟩⟩ : Entry)) (by unfold Agree; kernel_rfl)⟩
  · cases h
def spec_l07Store_c : Con := fun args => spec_l07Store_c0 (norms 0 [.ptr 8] args)
set_option maxRecDepth 100000 in
theorem spec_l07Store_ok : FunOK Try.prog 149 spec_l07Store_c.fn := con_norm [.ptr 8] spec_l07Store_ok0

/-- loop.example/g01284/spec.l07Load -/
def spec_l07Load_tree (a0 : (List UInt8)) : DT (Entry × Bool) :=
  .need ((spec_l07Size_need a0)) (
  let x0 := spec_l07Size a0;
  let x1 := (x0 == 0);
  .ask x1
  (
   .leaf ((⟨[], 0, ⟨0, 0, 0, 0, 0, 0⟩⟩ : Entry), false))
  (
   let x2 := ((List.length a0 : Nat) : Int);
   let x3 := (x0 != x2);
   .ask x3
   (
    .leaf ((⟨[], 0, ⟨0, 0, 0, 0, 0, 0⟩⟩ : Entry), false))
   (
    let x4 := IntKind.wrap .i64 (x0 - 30);
    .skip (
    let x5 := IntKind.wrap .i64 (x4 + 0);
    .need ((decide (0 ≤ x5) && decide (x5 ≤ (((List.length a0) : Nat) : Int)))) (
    let x6 := List.drop (Int.toNat x5) (List.take (List.length a0) a0);
    .need ((decide (0 ≤ 0) && decide (0 < ((List.length x6 : Nat) : Int)))) (
    let x7 := ((List.getD x6 0 0).toNat : Int);
    let x8 := IntKind.wrap .i64 x7;
    .need ((decide (0 ≤ 1) && decide (1 < ((List.length x6 : Nat) : Int)))) (
    let x9 := ((List.getD x6 1 0).toNat : Int);
    let x10 := IntKind.wrap .i64 x9;
    let x11 := IntKind.wrap .i64 (256 * x10);
    let x12 := IntKind.wrap .i64 (x8 + x11);
    .need ((decide (0 ≤ 2) && decide (2 < ((List.length x6 : Nat) : Int)))) (
    let x13 := ((List.getD x6 2 0).toNat : Int);
    let x14 := IntKind.wrap .i64 x13;
    let x15 := IntKind.wrap .i64 (65536 * x14);
    let x16 := IntKind.wrap .i64 (x12 + x15);
    .need ((decide (0 ≤ 3) && decide (3 < ((List.length x6 : Nat) : Int)))) (
    let x17 := ((List.getD x6 3 0).toNat : Int);
    let x18 := IntKind.wrap .i64 x17;
    let x19 := IntKind.wrap .i64 (16777216 * x18);
    let x20 := IntKind.wrap .i64 (x16 + x19);
    let x21 := spec_l01From x20;
    .skip (
    let x22 := ([] : List Nat) ++ [x21];
    .skip (
    let x23 := IntKind.wrap .i64 (x4 + 4);
    .need ((decide (0 ≤ x23) && decide (x23 ≤ (((List.length a0) : Nat) : Int)))) (
    let x24 := List.drop (Int.toNat x23) (List.take (List.length a0) a0);
    .need ((decide (0 ≤ 0) && decide (0 < ((List.length x24 : Nat) : Int)))) (
    let x25 := ((List.getD x24 0 0).toNat : Int);
    let x26 := IntKind.wrap .i64 x25;
    .need ((decide (0 ≤ 1) && decide (1 < ((List.length x24 : Nat) : Int)))) (
    let x27 := ((List.getD x24 1 0).toNat : Int);
    let x28 := IntKind.wrap .i64 x27;
    let x29 := IntKind.wrap .i64 (256 * x28);
    let x30 := IntKind.wrap .i64 (x26 + x29);
    .need ((decide (0 ≤ 2) && decide (2 < ((List.length x24 : Nat) : Int)))) (
    let x31 := ((List.getD x24 2 0).toNat : Int);
    let x32 := IntKind.wrap .i64 x31;
    let x33 := IntKind.wrap .i64 (65536 * x32);
    let x34 := IntKind.wrap .i64 (x30 + x33);
    .need ((decide (0 ≤ 3) && decide (3 < ((List.length x24 : Nat) : Int)))) (
    let x35 := ((List.getD x24 3 0).toNat : Int);
    let x36 := IntKind.wrap .i64 x35;
    let x37 := IntKind.wrap .i64 (16777216 * x36);
    let x38 := IntKind.wrap .i64 (x34 + x37);
    let x39 := spec_l01From x38;
    .skip (
    let x40 := x22 ++ [x39];
    .skip (
    let x41 := IntKind.wrap .i64 (x4 + 8);
    .need ((decide (0 ≤ x41) && decide (x41 ≤ (((List.length a0) : Nat) : Int)))) (
    let x42 := List.drop (Int.toNat x41) (List.take (List.length a0) a0);
    .need ((decide (0 ≤ 0) && decide (0 < ((List.length x42 : Nat) : Int)))) (
    let x43 := ((List.getD x42 0 0).toNat : Int);
    let x44 := IntKind.wrap .i64 x43;
    .need ((decide (0 ≤ 1) && decide (1 < ((List.length x42 : Nat) : Int)))) (
    let x45 := ((List.getD x42 1 0).toNat : Int);
    let x46 := IntKind.wrap .i64 x45;
    let x47 := IntKind.wrap .i64 (256 * x46);
    let x48 := IntKind.wrap .i64 (x44 + x47);
    .need ((decide (0 ≤ 2) && decide (2 < ((List.length x42 : Nat) : Int)))) (
    let x49 := ((List.getD x42 2 0).toNat : Int);
    let x50 := IntKind.wrap .i64 x49;
    let x51 := IntKind.wrap .i64 (65536 * x50);
    let x52 := IntKind.wrap .i64 (x48 + x51);
    .need ((decide (0 ≤ 3) && decide (3 < ((List.length x42 : Nat) : Int)))) (
    let x53 := ((List.getD x42 3 0).toNat : Int);
    let x54 := IntKind.wrap .i64 x53;
    let x55 := IntKind.wrap .i64 (16777216 * x54);
    let x56 := IntKind.wrap .i64 (x52 + x55);
    let x57 := spec_l01From x56;
    .skip (
    let x58 := x40 ++ [x57];
    .skip (
    let x59 := IntKind.wrap .i64 (x4 + 12);
    .need ((decide (0 ≤ x59) && decide (x59 ≤ (((List.length a0) : Nat) : Int)))) (
    let x60 := List.drop (Int.toNat x59) (List.take (List.length a0) a0);
    .need ((decide (0 ≤ 0) && decide (0 < ((List.length x60 : Nat) : Int)))) (
    let x61 := ((List.getD x60 0 0).toNat : Int);
    let x62 := IntKind.wrap .i64 x61;
    .need ((decide (0 ≤ 1) && decide (1 < ((List.length x60 : Nat) : Int)))) (
    let x63 := ((List.getD x60 1 0).toNat : Int);
    let x64 := IntKind.wrap .i64 x63;
    let x65 := IntKind.wrap .i64 (256 * x64);
    let x66 := IntKind.wrap .i64 (x62 + x65);
    .need ((decide (0 ≤ 2) && decide (2 < ((List.length x60 : Nat) : Int)))) (
    let x67 := ((List.getD x60 2 0).toNat : Int);
    let x68 := IntKind.wrap .i64 x67;
    let x69 := IntKind.wrap .i64 (65536 * x68);
    let x70 := IntKind.wrap .i64 (x66 + x69);
    .need ((decide (0 ≤ 3) && decide (3 < ((List.length x60 : Nat) : Int)))) (
    let x71 := ((List.getD x60 3 0).toNat : Int);
    let x72 := IntKind.wrap .i64 x71;
    let x73 := IntKind.wrap .i64 (16777216 * x72);
    let x74 := IntKind.wrap .i64 (x70 + x73);
    let x75 := spec_l01From x74;
    .skip (
    let x76 := x58 ++ [x75];
    .skip (
    let x77 := IntKind.wrap .i64 (x4 + 16);
    .need ((decide (0 ≤ x77) && decide (x77 ≤ (((List.length a0) : Nat) : Int)))) (
    let x78 := List.drop (Int.toNat x77) (List.take (List.length a0) a0);
    .need ((decide (0 ≤ 0) && decide (0 < ((List.length x78 : Nat) : Int)))) (
    let x79 := ((List.getD x78 0 0).toNat : Int);
    let x80 := IntKind.wrap .i64 x79;
    .need ((decide (0 ≤ 1) && decide (1 < ((List.length x78 : Nat) : Int)))) (
    let x81 := ((List.getD x78 1 0).toNat : Int);
    let x82 := IntKind.wrap .i64 x81;
    let x83 := IntKind.wrap .i64 (256 * x82);
    let x84 := IntKind.wrap .i64 (x80 + x83);
    .need ((decide (0 ≤ 2) && decide (2 < ((List.length x78 : Nat) : Int)))) (
    let x85 := ((List.getD x78 2 0).toNat : Int);
    let x86 := IntKind.wrap .i64 x85;
    let x87 := IntKind.wrap .i64 (65536 * x86);
    let x88 := IntKind.wrap .i64 (x84 + x87);
    .need ((decide (0 ≤ 3) && decide (3 < ((List.length x78 : Nat) : Int)))) (
    let x89 := ((List.getD x78 3 0).toNat : Int);
    let x90 := IntKind.wrap .i64 x89;
    let x91 := IntKind.wrap .i64 (16777216 * x90);
    let x92 := IntKind.wrap .i64 (x88 + x91);
    let x93 := spec_l01From x92;
    .skip (
    let x94 := x76 ++ [x93];
    .skip (
    let x95 := IntKind.wrap .i64 (x4 + 20);
    .need ((decide (0 ≤ x95) && decide (x95 ≤ (((List.length a0) : Nat) : Int)))) (
    let x96 := List.drop (Int.toNat x95) (List.take (List.length a0) a0);
    .need ((decide (0 ≤ 0) && decide (0 < ((List.length x96 : Nat) : Int)))) (
    let x97 := ((List.getD x96 0 0).toNat : Int);
    let x98 := IntKind.wrap .i64 x97;
    .need ((decide (0 ≤ 1) && decide (1 < ((List.length x96 : Nat) : Int)))) (
    let x99 := ((List.getD x96 1 0).toNat : Int);
    let x100 := IntKind.wrap .i64 x99;
    let x101 := IntKind.wrap .i64 (256 * x100);
    let x102 := IntKind.wrap .i64 (x98 + x101);
    .need ((decide (0 ≤ 2) && decide (2 < ((List.length x96 : Nat) : Int)))) (
    let x103 := ((List.getD x96 2 0).toNat : Int);
    let x104 := IntKind.wrap .i64 x103;
    let x105 := IntKind.wrap .i64 (65536 * x104);
    let x106 := IntKind.wrap .i64 (x102 + x105);
    .need ((decide (0 ≤ 3) && decide (3 < ((List.length x96 : Nat) : Int)))) (
    let x107 := ((List.getD x96 3 0).toNat : Int);
    let x108 := IntKind.wrap .i64 x107;
    let x109 := IntKind.wrap .i64 (16777216 * x108);
    let x110 := IntKind.wrap .i64 (x106 + x109);
    let x111 := spec_l01From x110;
    .skip (
    let x112 := x94 ++ [x111];
    .skip (
    let x113 := IntKind.wrap .i64 (x4 + 24);
    .need ((decide (0 ≤ x113) && decide (x113 ≤ (((List.length a0) : Nat) : Int)))) (
    let x114 := List.drop (Int.toNat x113) (List.take (List.length a0) a0);
    .need ((decide (0 ≤ 0) && decide (0 < ((List.length x114 : Nat) : Int)))) (
    let x115 := ((List.getD x114 0 0).toNat : Int);
    let x116 := IntKind.wrap .i64 x115;
    .need ((decide (0 ≤ 1) && decide (1 < ((List.length x114 : Nat) : Int)))) (
    let x117 := ((List.getD x114 1 0).toNat : Int);
    let x118 := IntKind.wrap .i64 x117;
    let x119 := IntKind.wrap .i64 (256 * x118);
    let x120 := IntKind.wrap .i64 (x116 + x119);
    .need ((decide (0 ≤ 2) && decide (2 < ((List.length x114 : Nat) : Int)))) (
    let x121 := ((List.getD x114 2 0).toNat : Int);
    let x122 := IntKind.wrap .i64 x121;
    let x123 := IntKind.wrap .i64 (65536 * x122);
    let x124 := IntKind.wrap .i64 (x120 + x123);
    .need ((decide (0 ≤ 3) && decide (3 < ((List.length x114 : Nat) : Int)))) (
    let x125 := ((List.getD x114 3 0).toNat : Int);
    let x126 := IntKind.wrap .i64 x125;
    let x127 := IntKind.wrap .i64 (16777216 * x126);
    let x128 := IntKind.wrap .i64 (x124 + x127);
    let x129 := spec_l01From x128;
    .skip (
    let x130 := x112 ++ [x129];
    .skip (
    .need ((decide (0 ≤ x4) && decide (x4 ≤ ((List.length a0 : Nat) : Int)))) (
    .need ((decide (0 ≤ 5) && decide (5 ≤ (((Int.toNat x4) : Nat) : Int)))) (
    let x131 := List.drop 5 (List.take (Int.toNat x4) a0);
    .skip (
    .need ((decide (0 < List.length x130))) (
    let x132 := List.getD x130 0 default;
    .skip (
    .need ((decide (1 < List.length x130))) (
    let x133 := List.getD x130 1 default;
    .skip (
    .need ((decide (2 < List.length x130))) (
    let x134 := List.getD x130 2 default;
    .skip (
    .need ((decide (3 < List.length x130))) (
    let x135 := List.getD x130 3 default;
    .skip (
    .need ((decide (4 < List.length x130))) (
    let x136 := List.getD x130 4 default;
    .skip (
    .need ((decide (5 < List.length x130))) (
    let x137 := List.getD x130 5 default;
    .skip (
    .need ((decide (6 < List.length x130))) (
    let x138 := List.getD x130 6 default;
    .need ((spec_l07Entry_need (⟨x131, x132, ⟨x133, x134, x135, x136, x137, x138⟩⟩ : Entry))) (
    let x139 := spec_l07Entry (⟨x131, x132, ⟨x133, x134, x135, x136, x137, x138⟩⟩ : Entry);
    .ask (!x139)
    (
     .leaf ((⟨[], 0, ⟨0, 0, 0, 0, 0, 0⟩⟩ : Entry), false))
    (
     .need ((spec_l07Store_need (⟨x131, x132, ⟨x133, x134, x135, x136, x137, x138⟩⟩ : Entry))) (
     let x140 := spec_l07Store (⟨x131, x132, ⟨x133, x134, x135, x136, x137, x138⟩⟩ : Entry);
     let x141 := (!(x140 == a0));
     .ask x141
     (
      .leaf ((⟨[], 0, ⟨0, 0, 0, 0, 0, 0⟩⟩ : Entry), false))
     (
      .leaf ((⟨x131, x132, ⟨x133, x134, x135, x136, x137, x138⟩⟩ : Entry), true))))))))))))))))))))))))))))))))))))))))))))))))))))))))))))))))))))))))))
def spec_l07Load (a0 : (List UInt8)) : Entry × Bool := (spec_l07Load_tree a0).val
def spec_l07Load_need (a0 : (List UInt8)) : Bool := (spec_l07Load_tree a0).ok
def spec_l07Load_mk (p : Entry × Bool) : Ret := ⟨.tup [.agg [.str p.1.Name, .flt .f32 p.1.Mass, .flt .f32 p.1.Orb.Long, .flt .f32 p.1.Orb.Round, .flt .f32 p.1.Orb.Tilt, .flt .f32 p.1.Orb.Node, .flt .f32 p.1.Orb.Peri, .flt .f32 p.1.Orb.Phase], .bool p.2], []⟩
def spec_l07Load_c : Con := fun args => match args with
  | [.str a0] => some (.need (spec_l07Load_need a0) (.leaf (spec_l07Load_mk (spec_l07Load a0))))
  | _ => none
set_option maxRecDepth 100000 in
theorem spec_l07Load_ok : FunOK Try.prog 68 spec_l07Load_c.fn := by
  refine con_ok (Γ := gam [(67, spec_l07Size_c), (147, spec_l01From_c), (148, spec_l07Entry_c), (149, spec_l07Store_c)]) (gam_cons spec_l07Size_ok (gam_cons spec_l01From_ok (gam_cons spec_l07Entry_ok (gam_cons spec_l07Store_ok (gam_nil))))) tab_ok (by kernel_rfl) Try.func68 (by kernel_rfl) (by kernel_rfl) Try.ntmps68 Try.results68 (loopsOK_none rfl _) 100000 fun args t h => ?_
  unfold spec_l07Load_c at h
  split at h
  · rename_i a0
    cases h
    exact ⟨rfl, agree_need (mk := spec_l07Load_mk) (t := spec_l07Load_tree a0) (by unfold Agree; kernel_rfl)⟩
  · cases h

/-- a loop of spec_RecoverEntries -/
def spec_RecoverEntries_loop0_step (p : (List UInt8)) (s : Int × List Entry) : Round (Int × List Entry) (Int × List Entry) :=
  let x0 := ((List.length s.2 : Nat) : Int);
  let x1 := decide (x0 < 16);
  .ask x1
  (
   .need ((decide (0 ≤ s.1) && decide (s.1 ≤ (((List.length p) : Nat) : Int)))) (
   let x2 := List.drop (Int.toNat s.1) (List.take (List.length p) p);
   .need ((spec_l07Size_need x2)) (
   let x3 := spec_l07Size x2;
   let x4 := (x3 == 0);
   .ask x4
   (
    .leaf (.inr (s.1, s.2), [0]))
   (
    let x5 := IntKind.wrap .i64 (s.1 + x3);
    .need ((decide (0 ≤ x5) && decide (x5 ≤ ((List.length p : Nat) : Int)))) (
    .need ((decide (0 ≤ s.1) && decide (s.1 ≤ (((Int.toNat x5) : Nat) : Int)))) (
    let x6 := List.drop (Int.toNat s.1) (List.take (Int.toNat x5) p);
    .need ((spec_l07Load_need x6)) (
    let x7 := spec_l07Load x6;
    .ask (!x7.2)
    (
     .leaf (.inr (s.1, s.2), [0]))
    (
     let x8 := ((List.length s.2 : Nat) : Int);
     let x9 := decide (x8 > 0);
     .ask x9
     (
      let x10 := ((List.length s.2 : Nat) : Int);
      let x11 := IntKind.wrap .i64 (x10 - 1);
      .need ((decide (0 ≤ x11) && decide (x11 < ((List.length s.2 : Nat) : Int)))) (
      .need ((decide ((Int.toNat x11) < List.length s.2))) (
      let x12 := List.getD s.2 (Int.toNat x11) default;
      let x13 := (!Op.bytesLess x12.Name x7.1.Name);
      .ask x13
      (
       .leaf (.inr (s.1, s.2), [0]))
      (
       .need ((decide ((List.length s.2 + List.length [(⟨x7.1.Name, x7.1.Mass, ⟨x7.1.Orb.Long, x7.1.Orb.Round, x7.1.Orb.Tilt, x7.1.Orb.Node, x7.1.Orb.Peri, x7.1.Orb.Phase⟩⟩ : Entry)]) * 48 ≤ 140737488355328) && decide (List.length s.2 + List.length [(⟨x7.1.Name, x7.1.Mass, ⟨x7.1.Orb.Long, x7.1.Orb.Round, x7.1.Orb.Tilt, x7.1.Orb.Node, x7.1.Orb.Peri, x7.1.Orb.Phase⟩⟩ : Entry)] ≤ 9223372036854775807))) (
       let x14 := s.2 ++ [(⟨x7.1.Name, x7.1.Mass, ⟨x7.1.Orb.Long, x7.1.Orb.Round, x7.1.Orb.Tilt, x7.1.Orb.Node, x7.1.Orb.Peri, x7.1.Orb.Phase⟩⟩ : Entry)];
       let x15 := IntKind.wrap .i64 (s.1 + x3);
       .leaf (.inl (x15, x14), [361]))))))
     (
      .need ((decide ((List.length s.2 + List.length [(⟨x7.1.Name, x7.1.Mass, ⟨x7.1.Orb.Long, x7.1.Orb.Round, x7.1.Orb.Tilt, x7.1.Orb.Node, x7.1.Orb.Peri, x7.1.Orb.Phase⟩⟩ : Entry)]) * 48 ≤ 140737488355328) && decide (List.length s.2 + List.length [(⟨x7.1.Name, x7.1.Mass, ⟨x7.1.Orb.Long, x7.1.Orb.Round, x7.1.Orb.Tilt, x7.1.Orb.Node, x7.1.Orb.Peri, x7.1.Orb.Phase⟩⟩ : Entry)] ≤ 9223372036854775807))) (
      let x10 := s.2 ++ [(⟨x7.1.Name, x7.1.Mass, ⟨x7.1.Orb.Long, x7.1.Orb.Round, x7.1.Orb.Tilt, x7.1.Orb.Node, x7.1.Orb.Peri, x7.1.Orb.Phase⟩⟩ : Entry)];
      let x11 := IntKind.wrap .i64 (s.1 + x3);
      .leaf (.inl (x11, x10), [361])))))))))))
  (
   .leaf (.inr (s.1, s.2), [0]))
def spec_RecoverEntries_loop0_L (p : (List UInt8)) : LoopS (Int × List Entry) (Int × List Entry) := { tl := fun s => [.str p, .junk, .junk, .junk, .junk, .own 0, .int .i64 s.1], hl := fun s => [some (.typed 85 .entry s.2)], ex := fun r => .exit 0, otl := fun r => [.junk, .junk, .junk, .junk, .junk, .own 0, .int .i64 r.1], ohl := fun r => [some (.typed 85 .entry r.2)] }
def spec_RecoverEntries_loop0_ext : St → Option (((List UInt8)) × (Int × List Entry) × List Nat) := fun S => match (S.tm 0).unK, (S.tm 5).unK, (S.tm 6).unK with
  | .str q0, .own i0, .int .i64 q1 => (match S.hp i0 with
    | some (.typed 85 .entry q2) => some (q0, (q1, q2), [i0])
    | _ => none)
  | _, _, _ => none
def spec_RecoverEntries_loop0_post (p : (List UInt8)) (r : Int × List Entry) : DT (Ex × St) := .leaf (.exit 0, LSt [.junk, .junk, .junk, .junk, .junk, .own 0, .int .i64 r.1] [some (.typed 85 .entry r.2)])
def spec_RecoverEntries_loop0 (p : (List UInt8)) (s : Int × List Entry) : Int × List Entry := loopVal (spec_RecoverEntries_loop0_step p) s
def spec_RecoverEntries_loop0_ends (p : (List UInt8)) (s : Int × List Entry) : Bool := loopEnds (spec_RecoverEntries_loop0_step p) s
def spec_RecoverEntries_loop0_F : LoopF := loopF spec_RecoverEntries_loop0_step spec_RecoverEntries_loop0_ext spec_RecoverEntries_loop0_post
theorem spec_RecoverEntries_loop0_hext : ∀ S p s fl, spec_RecoverEntries_loop0_ext S = some (p, s, fl) → Norm S fl ((spec_RecoverEntries_loop0_L p).tl s) ((spec_RecoverEntries_loop0_L p).hl s) (spec_RecoverEntries_loop0_L p).gl := by
  intro S p s fl h
  unfold spec_RecoverEntries_loop0_ext at h
  (repeat' split at h) <;> first
    | (cases h; constructor <;> simp_all [spec_RecoverEntries_loop0_L, keepT, keepH, rens, renH, PV.ren, Blk.ren, fOf, lget, nodup, natIn, lenEq, gtm, PV.unK])
    | cases h
theorem spec_RecoverEntries_loop0_hpost : ∀ p r e S', (spec_RecoverEntries_loop0_post p r).get = some (e, S') → e = (spec_RecoverEntries_loop0_L p).ex r ∧ S' = LSt ((spec_RecoverEntries_loop0_L p).otl r) ((spec_RecoverEntries_loop0_L p).ohl r) ((spec_RecoverEntries_loop0_L p).ogl r) := by
  intro p r e S' h
  unfold spec_RecoverEntries_loop0_post at h
  simp only [DT.get, Option.some.injEq, Prod.mk.injEq] at h; exact ⟨h.1.symm, h.2.symm⟩

def spec_RecoverEntries_loops : Nat → Option LoopF := loopTab [(3, spec_RecoverEntries_loop0_F)]
set_option maxRecDepth 100000 in
theorem spec_RecoverEntries_l0 : LoopOK Try.prog ⟨gam [(67, spec_l07Size_c), (68, spec_l07Load_c)], tab, 58, spec_RecoverEntries_loops⟩ (lp Try.f15 0) :=
  loopOK_some (F := spec_RecoverEntries_loop0_F) (by kernel_rfl) (loopF_ok (E := ⟨gam [(67, spec_l07Size_c), (68, spec_l07Load_c)], tab, 58, spec_RecoverEntries_loops⟩) ⟨gam_cons spec_l07Size_ok (gam_cons spec_l07Load_ok (gam_nil)), tab_ok, by kernel_rfl⟩ (fuel := 100000) (loopsOK_list (l := []) (by kernel_rfl) trivial) (L := spec_RecoverEntries_loop0_L) (fun p s => by unfold AgreeL; exact ⟨by kernel_rfl, by kernel_rfl⟩) (fun _ _ h => Ex.noConfusion h) spec_RecoverEntries_loop0_hext spec_RecoverEntries_loop0_hpost)
/-- loop.example/g01284/spec.RecoverEntries -/
def spec_RecoverEntries_tree (a0 : (List UInt8)) : DT (List Entry × Int × Bool) :=
  .need ((spec_RecoverEntries_loop0_ends a0 (0, []))) (
  let x0 := spec_RecoverEntries_loop0 a0 (0, []);
  .leaf (x0.2, x0.1, true))
def spec_RecoverEntries (a0 : (List UInt8)) : List Entry × Int × Bool := (spec_RecoverEntries_tree a0).val
def spec_RecoverEntries_need (a0 : (List UInt8)) : Bool := (spec_RecoverEntries_tree a0).ok
def spec_RecoverEntries_mk (p : List Entry × Int × Bool) : Ret := ⟨.tup [.own 0, .int .i64 p.2.1, .bool p.2.2], [.typed 85 .entry p.1]⟩
def spec_RecoverEntries_c : Con := fun args => match args with
  | [.str a0] => some (.need (spec_RecoverEntries_need a0) (.leaf (spec_RecoverEntries_mk (spec_RecoverEntries a0))))
  | _ => none
set_option maxRecDepth 100000 in
theorem spec_RecoverEntries_ok : FunOK Try.prog 15 spec_RecoverEntries_c.fn := by
  refine con_ok (Γ := gam [(67, spec_l07Size_c), (68, spec_l07Load_c)]) (gam_cons spec_l07Size_ok (gam_cons spec_l07Load_ok (gam_nil))) tab_ok (by kernel_rfl) Try.func15 (by kernel_rfl) (by kernel_rfl) Try.ntmps15 Try.results15 (loops := spec_RecoverEntries_loops) (loopsOK_list (l := [lp Try.f15 0]) (by kernel_rfl) ⟨spec_RecoverEntries_l0, trivial⟩) 100000 fun args t h => ?_
  unfold spec_RecoverEntries_c at h
  split at h
  · rename_i a0
    cases h
    exact ⟨rfl, agree_need (mk := spec_RecoverEntries_mk) (t := spec_RecoverEntries_tree a0) (by unfold Agree; kernel_rfl)⟩
  · cases h

/-- loop.example/g01284/impl.orbitFrom -/
def impl_orbitFrom_tree (a0 : List Nat) : DT (Orbit) :=
  .need ((decide (0 ≤ 0) && decide (0 < ((List.length a0 : Nat) : Int)))) (
  let x0 := List.getD a0 0 default;
  .need ((decide (0 ≤ 1) && decide (1 < ((List.length a0 : Nat) : Int)))) (
  let x1 := List.getD a0 1 default;
  .need ((decide (0 ≤ 2) && decide (2 < ((List.length a0 : Nat) : Int)))) (
  let x2 := List.getD a0 2 default;
  .need ((decide (0 ≤ 3) && decide (3 < ((List.length a0 : Nat) : Int)))) (
  let x3 := List.getD a0 3 default;
  .need ((decide (0 ≤ 4) && decide (4 < ((List.length a0 : Nat) : Int)))) (
  let x4 := List.getD a0 4 default;
  .need ((decide (0 ≤ 5) && decide (5 < ((List.length a0 : Nat) : Int)))) (
  let x5 := List.getD a0 5 default;
  .leaf ((⟨x0, x1, x2, x3, x4, x5⟩ : Orbit))))))))
def impl_orbitFrom (a0 : List Nat) : Orbit := (impl_orbitFrom_tree a0).val
def impl_orbitFrom_need (a0 : List Nat) : Bool := (impl_orbitFrom_tree a0).ok
def impl_orbitFrom_mk (p : Orbit) : Ret := ⟨.agg [.flt .f32 p.Long, .flt .f32 p.Round, .flt .f32 p.Tilt, .flt .f32 p.Node, .flt .f32 p.Peri, .flt .f32 p.Phase], []⟩
def impl_orbitFrom_c0 : Con := fun args => match args with
  | [.vslc 1 (.flt .f32) a0] => some (.need (impl_orbitFrom_need a0) (.leaf (impl_orbitFrom_mk (impl_orbitFrom a0))))
  | _ => none
set_option maxRecDepth 100000 in
theorem impl_orbitFrom_ok0 : FunOK Try.prog 151 impl_orbitFrom_c0.fn := by
  refine con_ok (Γ := gam []) (gam_nil) tab_ok (by kernel_rfl) Try.func151 (by kernel_rfl) (by kernel_rfl) Try.ntmps151 Try.results151 (loopsOK_none rfl _) 100000 fun args t h => ?_
  unfold impl_orbitFrom_c0 at h
  split at h
  · rename_i a0
    cases h
    exact ⟨rfl, agree_need (mk := impl_orbitFrom_mk) (t := impl_orbitFrom_tree a0) (by unfold Agree; kernel_rfl)⟩
  · cases h
def impl_orbitFrom_c : Con := fun args => impl_orbitFrom_c0 (norms 0 [.slc (.flt .f32)] args)
set_option maxRecDepth 100000 in
theorem impl_orbitFrom_ok : FunOK Try.prog 151 impl_orbitFrom_c.fn := con_norm [.slc (.flt .f32)] impl_orbitFrom_ok0

/-- a loop of impl_IsName -/
def impl_IsName_loop0_step (p : (List UInt8) × Int) (s : Int) : Round (Int) ((Unit) ⊕ (Unit)) :=
  let x0 := decide (s < p.2);
  .ask x0
  (
   .need ((decide (0 ≤ s) && decide (s < ((List.length p.1 : Nat) : Int)))) (
   let x1 := ((List.getD p.1 (Int.toNat s) 0).toNat : Int);
   let x2 := decide (x1 < 97);
   .ask x2
   (
    .leaf (.inr (.inl ()), []))
   (
    .need ((decide (0 ≤ s) && decide (s < ((List.length p.1 : Nat) : Int)))) (
    let x3 := ((List.getD p.1 (Int.toNat s) 0).toNat : Int);
    let x4 := decide (x3 > 122);
    .ask x4
    (
     .leaf (.inr (.inl ()), []))
    (
     let x5 := IntKind.wrap .i64 (s + 1);
     .leaf (.inl x5, []))))))
  (
   .leaf (.inr (.inr ()), []))
def impl_IsName_loop0_L (p : (List UInt8) × Int) : LoopS (Int) ((Unit) ⊕ (Unit)) := { tl := fun s => [.str p.1, .junk, .junk, .junk, .junk, .int .i64 p.2, .int .i64 s], hl := fun s => [], ex := fun r => match r with | .inl r => .ret | .inr r => .exit 0, otl := fun r => match r with | .inl r => [.junk, .junk, .bool false] | .inr r => [.str p.1], ohl := fun r => match r with | .inl r => [] | .inr r => [] }
def impl_IsName_loop0_ext : St → Option (((List UInt8) × Int) × (Int) × List Nat) := fun S => match (S.tm 0).unK, (S.tm 5).unK, (S.tm 6).unK with
  | .str q0, .int .i64 q1, .int .i64 q2 => some ((q0, q1), q2, [])
  | _, _, _ => none
def impl_IsName_loop0_post (p : (List UInt8) × Int) (r : (Unit) ⊕ (Unit)) : DT (Ex × St) := .ask (isL r) (.leaf (.ret, LSt [.junk, .junk, .bool false] [])) (.leaf (.exit 0, LSt [.str p.1] []))
def impl_IsName_loop0 (p : (List UInt8) × Int) (s : Int) : (Unit) ⊕ (Unit) := loopVal (impl_IsName_loop0_step p) s
def impl_IsName_loop0_ends (p : (List UInt8) × Int) (s : Int) : Bool := loopEnds (impl_IsName_loop0_step p) s
def impl_IsName_loop0_F : LoopF := loopF impl_IsName_loop0_step impl_IsName_loop0_ext impl_IsName_loop0_post
theorem impl_IsName_loop0_hext : ∀ S p s fl, impl_IsName_loop0_ext S = some (p, s, fl) → Norm S fl ((impl_IsName_loop0_L p).tl s) ((impl_IsName_loop0_L p).hl s) (impl_IsName_loop0_L p).gl := by
  intro S p s fl h
  unfold impl_IsName_loop0_ext at h
  (repeat' split at h) <;> first
    | (cases h; constructor <;> simp_all [impl_IsName_loop0_L, keepT, keepH, rens, renH, PV.ren, Blk.ren, fOf, lget, nodup, natIn, lenEq, gtm, PV.unK])
    | cases h
theorem impl_IsName_loop0_hpost : ∀ p r e S', (impl_IsName_loop0_post p r).get = some (e, S') → e = (impl_IsName_loop0_L p).ex r ∧ S' = LSt ((impl_IsName_loop0_L p).otl r) ((impl_IsName_loop0_L p).ohl r) ((impl_IsName_loop0_L p).ogl r) := by
  intro p r e S' h
  unfold impl_IsName_loop0_post at h
  cases r <;> (simp only [isL, DT.get, Option.some.injEq, Prod.mk.injEq] at h; exact ⟨h.1.symm, h.2.symm⟩)

def impl_IsName_loops : Nat → Option LoopF := loopTab [(2, impl_IsName_loop0_F)]
set_option maxRecDepth 100000 in
theorem impl_IsName_l0 : LoopOK Try.prog ⟨gam [], tab, 28, impl_IsName_loops⟩ (lp Try.f138 0) :=
  loopOK_some (F := impl_IsName_loop0_F) (by kernel_rfl) (loopF_ok (E := ⟨gam [], tab, 28, impl_IsName_loops⟩) ⟨gam_nil, tab_ok, by kernel_rfl⟩ (fuel := 100000) (loopsOK_list (l := []) (by kernel_rfl) trivial) (L := impl_IsName_loop0_L) (fun p s => by unfold AgreeL; exact ⟨by kernel_rfl, by kernel_rfl⟩) (fun _ r h => by cases r <;> exact Ex.noConfusion h) impl_IsName_loop0_hext impl_IsName_loop0_hpost)
/-- loop.example/g01284/impl.IsName -/
def impl_IsName_tree (a0 : (List UInt8)) : DT (Bool) :=
  let x0 := ((List.length a0 : Nat) : Int);
  .need ((impl_IsName_loop0_ends (a0, x0) 0)) (
  let x1 := impl_IsName_loop0 (a0, x0) 0;
  .ask ((isL x1))
  (
   .leaf false)
  (
   let x2 := ((List.length a0 : Nat) : Int);
   let x3 := decide (x2 ≥ 1);
   .ask x3
   (
    let x4 := ((List.length a0 : Nat) : Int);
    let x5 := decide (x4 ≤ 8);
    .leaf x5)
   (
    .leaf false)))
def impl_IsName (a0 : (List UInt8)) : Bool := (impl_IsName_tree a0).val
def impl_IsName_need (a0 : (List UInt8)) : Bool := (impl_IsName_tree a0).ok
def impl_IsName_mk (p : Bool) : Ret := ⟨.bool p, []⟩
def impl_IsName_c : Con := fun args => match args with
  | [.str a0] => some (.need (impl_IsName_need a0) (.leaf (impl_IsName_mk (impl_IsName a0))))
  | _ => none
set_option maxRecDepth 100000 in
theorem impl_IsName_ok : FunOK Try.prog 138 impl_IsName_c.fn := by
  refine con_ok (Γ := gam []) (gam_nil) tab_ok (by kernel_rfl) Try.func138 (by kernel_rfl) (by kernel_rfl) Try.ntmps138 Try.results138 (loops := impl_IsName_loops) (loopsOK_list (l := [lp Try.f138 0]) (by kernel_rfl) ⟨impl_IsName_l0, trivial⟩) 100000 fun args t h => ?_
  unfold impl_IsName_c at h
  split at h
  · rename_i a0
    cases h
    exact ⟨rfl, agree_need (mk := impl_IsName_mk) (t := impl_IsName_tree a0) (by unfold Agree; kernel_rfl)⟩
  · cases h

/-- math.IsNaN -/
def math_IsNaN_tree (a0 : Nat) : DT (Bool) :=
  let x0 := fne .f64 a0 a0;
  .leaf x0
def math_IsNaN (a0 : Nat) : Bool := (math_IsNaN_tree a0).val
def math_IsNaN_mk (p : Bool) : Ret := ⟨.bool p, []⟩
def math_IsNaN_c : Con := fun args => match args with
  | [.flt .f64 a0] => some (.leaf (math_IsNaN_mk (math_IsNaN a0)))
  | _ => none
set_option maxRecDepth 100000 in
theorem math_IsNaN_ok : FunOK Try.prog 210 math_IsNaN_c.fn := by
  refine con_ok (Γ := gam []) (gam_nil) tab_ok (by kernel_rfl) Try.func210 (by kernel_rfl) (by kernel_rfl) Try.ntmps210 Try.results210 (loopsOK_none rfl _) 100000 fun args t h => ?_
  unfold math_IsNaN_c at h
  split at h
  · rename_i a0
    cases h
    exact ⟨rfl, agree_tot (mk := math_IsNaN_mk) (t := math_IsNaN_tree a0) (by unfold Agree; kernel_rfl) (by kernel_rfl)⟩
  · cases h

/-- math.Abs -/
def math_Abs_tree (a0 : Nat) : DT (Nat) :=
  .ask ((isNaN .f64 a0))
  (
   .leaf 9221120237041090560)
  (
   let x0 := IntKind.wrap .u64 (BitVec.ofInt (IntKind.bits .u64) ((a0 : Nat) : Int) &&& ~~~ BitVec.ofInt (IntKind.bits .u64) 9223372036854775808).toNat;
   let x1 := canon .f64 (Int.toNat x0);
   .leaf x1)
def math_Abs (a0 : Nat) : Nat := (math_Abs_tree a0).val
def math_Abs_mk (p : Nat) : Ret := ⟨.flt .f64 p, []⟩
def math_Abs_c : Con := fun args => match args with
  | [.flt .f64 a0] => some (.leaf (math_Abs_mk (math_Abs a0)))
  | _ => none
set_option maxRecDepth 100000 in
theorem math_Abs_ok : FunOK Try.prog 158 math_Abs_c.fn := by
  refine con_ok (Γ := gam [(207, math_Float64bits_c), (206, math_Float64frombits_c)]) (gam_cons math_Float64bits_ok (gam_cons math_Float64frombits_ok (gam_nil))) tab_ok (by kernel_rfl) Try.func158 (by kernel_rfl) (by kernel_rfl) Try.ntmps158 Try.results158 (loopsOK_none rfl _) 100000 fun args t h => ?_
  unfold math_Abs_c at h
  split at h
  · rename_i a0
    cases h
    exact ⟨rfl, agree_tot (mk := math_Abs_mk) (t := math_Abs_tree a0) (by unfold Agree; kernel_rfl) (by kernel_rfl)⟩
  · cases h

/-- math.IsInf -/
def math_IsInf_tree (a0 : Nat) (a1 : Int) : DT (Bool) :=
  let x0 := (a1 == 0);
  .ask x0
  (
   let x1 := math_Abs a0;
   let x2 := fgt .f64 x1 9218868437227405311;
   .leaf x2)
  (
   let x1 := decide (a1 < 0);
   .ask x1
   (
    let x2 := fneg .f64 a0;
    let x3 := fgt .f64 x2 9218868437227405311;
    .leaf x3)
   (
    let x2 := fgt .f64 a0 9218868437227405311;
    .leaf x2))
def math_IsInf (a0 : Nat) (a1 : Int) : Bool := (math_IsInf_tree a0 a1).val
def math_IsInf_mk (p : Bool) : Ret := ⟨.bool p, []⟩
def math_IsInf_c : Con := fun args => match args with
  | [.flt .f64 a0, .int .i64 a1] => some (.leaf (math_IsInf_mk (math_IsInf a0 a1)))
  | _ => none
set_option maxRecDepth 100000 in
theorem math_IsInf_ok : FunOK Try.prog 211 math_IsInf_c.fn := by
  refine con_ok (Γ := gam [(158, math_Abs_c)]) (gam_cons math_Abs_ok (gam_nil)) tab_ok (by kernel_rfl) Try.func211 (by kernel_rfl) (by kernel_rfl) Try.ntmps211 Try.results211 (loopsOK_none rfl _) 100000 fun args t h => ?_
  unfold math_IsInf_c at h
  split at h
  · rename_i a0 a1
    cases h
    exact ⟨rfl, agree_tot (mk := math_IsInf_mk) (t := math_IsInf_tree a0 a1) (by unfold Agree; kernel_rfl) (by kernel_rfl)⟩
  · cases h

/-- loop.example/g01284/impl.finite -/
def impl_finite_tree (a0 : Nat) : DT (Bool) :=
  let x0 := math_IsNaN a0;
  .ask (!x0)
  (
   let x1 := math_IsInf a0 0;
   .leaf (!x1))
  (
   .leaf false)
def impl_finite (a0 : Nat) : Bool := (impl_finite_tree a0).val
def impl_finite_mk (p : Bool) : Ret := ⟨.bool p, []⟩
def impl_finite_c : Con := fun args => match args with
  | [.flt .f64 a0] => some (.leaf (impl_finite_mk (impl_finite a0)))
  | _ => none
set_option maxRecDepth 100000 in
theorem impl_finite_ok : FunOK Try.prog 166 impl_finite_c.fn := by
  refine con_ok (Γ := gam [(210, math_IsNaN_c), (211, math_IsInf_c)]) (gam_cons math_IsNaN_ok (gam_cons math_IsInf_ok (gam_nil))) tab_ok (by kernel_rfl) Try.func166 (by kernel_rfl) (by kernel_rfl) Try.ntmps166 Try.results166 (loopsOK_none rfl _) 100000 fun args t h => ?_
  unfold impl_finite_c at h
  split at h
  · rename_i a0
    cases h
    exact ⟨rfl, agree_tot (mk := impl_finite_mk) (t := impl_finite_tree a0) (by unfold Agree; kernel_rfl) (by kernel_rfl)⟩
  · cases h

/-- loop.example/g01284/impl.IsFinite -/
def impl_IsFinite_tree (a0 : Nat) : DT (Bool) :=
  .need ((fconvOk .f32 a0 .f64)) (
  let x0 := fconv .f32 a0 .f64;
  let x1 := impl_finite x0;
  .leaf x1)
def impl_IsFinite (a0 : Nat) : Bool := (impl_IsFinite_tree a0).val
def impl_IsFinite_need (a0 : Nat) : Bool := (impl_IsFinite_tree a0).ok
def impl_IsFinite_mk (p : Bool) : Ret := ⟨.bool p, []⟩
def impl_IsFinite_c : Con := fun args => match args with
  | [.flt .f32 a0] => some (.need (impl_IsFinite_need a0) (.leaf (impl_IsFinite_mk (impl_IsFinite a0))))
  | _ => none
set_option maxRecDepth 100000 in
theorem impl_IsFinite_ok : FunOK Try.prog 92 impl_IsFinite_c.fn := by
  refine con_ok (Γ := gam [(166, impl_finite_c)]) (gam_cons impl_finite_ok (gam_nil)) tab_ok (by kernel_rfl) Try.func92 (by kernel_rfl) (by kernel_rfl) Try.ntmps92 Try.results92 (loopsOK_none rfl _) 100000 fun args t h => ?_
  unfold impl_IsFinite_c at h
  split at h
  · rename_i a0
    cases h
    exact ⟨rfl, agree_need (mk := impl_IsFinite_mk) (t := impl_IsFinite_tree a0) (by unfold Agree; kernel_rfl)⟩
  · cases h

/-- loop.example/g01284/impl.aLength -/
def impl_aLength_tree (a0 : Nat) : DT (Bool) :=
  .need ((impl_IsFinite_need a0)) (
  let x0 := impl_IsFinite a0;
  .ask x0
  (
   let x1 := fgt .f32 a0 0;
   .leaf x1)
  (
   .leaf false))
def impl_aLength (a0 : Nat) : Bool := (impl_aLength_tree a0).val
def impl_aLength_need (a0 : Nat) : Bool := (impl_aLength_tree a0).ok
def impl_aLength_mk (p : Bool) : Ret := ⟨.bool p, []⟩
def impl_aLength_c : Con := fun args => match args with
  | [.flt .f32 a0] => some (.need (impl_aLength_need a0) (.leaf (impl_aLength_mk (impl_aLength a0))))
  | _ => none
set_option maxRecDepth 100000 in
theorem impl_aLength_ok : FunOK Try.prog 106 impl_aLength_c.fn := by
  refine con_ok (Γ := gam [(92, impl_IsFinite_c)]) (gam_cons impl_IsFinite_ok (gam_nil)) tab_ok (by kernel_rfl) Try.func106 (by kernel_rfl) (by kernel_rfl) Try.ntmps106 Try.results106 (loopsOK_none rfl _) 100000 fun args t h => ?_
  unfold impl_aLength_c at h
  split at h
  · rename_i a0
    cases h
    exact ⟨rfl, agree_need (mk := impl_aLength_mk) (t := impl_aLength_tree a0) (by unfold Agree; kernel_rfl)⟩
  · cases h

/-- loop.example/g01284/impl.areFinite$1 -/
def impl_areFinite_1_tree (a0 : Nat) : DT (Bool) :=
  .need ((impl_IsFinite_need a0)) (
  let x0 := impl_IsFinite a0;
  .leaf (!x0))
def impl_areFinite_1 (a0 : Nat) : Bool := (impl_areFinite_1_tree a0).val
def impl_areFinite_1_need (a0 : Nat) : Bool := (impl_areFinite_1_tree a0).ok
def impl_areFinite_1_mk (p : Bool) : Ret := ⟨.bool p, []⟩
def impl_areFinite_1_c : Con := fun args => match args with
  | [.flt .f32 a0] => some (.need (impl_areFinite_1_need a0) (.leaf (impl_areFinite_1_mk (impl_areFinite_1 a0))))
  | _ => none
set_option maxRecDepth 100000 in
theorem impl_areFinite_1_ok : FunOK Try.prog 182 impl_areFinite_1_c.fn := by
  refine con_ok (Γ := gam [(92, impl_IsFinite_c)]) (gam_cons impl_IsFinite_ok (gam_nil)) tab_ok (by kernel_rfl) Try.func182 (by kernel_rfl) (by kernel_rfl) Try.ntmps182 Try.results182 (loopsOK_none rfl _) 100000 fun args t h => ?_
  unfold impl_areFinite_1_c at h
  split at h
  · rename_i a0
    cases h
    exact ⟨rfl, agree_need (mk := impl_areFinite_1_mk) (t := impl_areFinite_1_tree a0) (by unfold Agree; kernel_rfl)⟩
  · cases h

/-- a loop of slices_IndexFunc___float32_float32__impl_areFinite_1 -/
def slices_IndexFunc___float32_float32__impl_areFinite_1_loop0_step (p : List Nat × Int) (s : Int) : Round (Int) ((Int) ⊕ (Unit)) :=
  let x0 := decide (s < p.2);
  .ask x0
  (
   .need ((decide (0 ≤ s) && decide (s < ((List.length p.1 : Nat) : Int)))) (
   let x1 := List.getD p.1 (Int.toNat s) default;
   .need ((impl_areFinite_1_need x1)) (
   let x2 := impl_areFinite_1 x1;
   .ask x2
   (
    .leaf (.inr (.inl s), []))
   (
    let x3 := IntKind.wrap .i64 (s + 1);
    .leaf (.inl x3, [])))))
  (
   .leaf (.inr (.inr ()), []))
def slices_IndexFunc___float32_float32__impl_areFinite_1_loop0_L (p : List Nat × Int) : LoopS (Int) ((Int) ⊕ (Unit)) := { tl := fun s => [.vslc 1 (.flt .f32) p.1, .func (.func 182) [] [], .junk, .junk, .junk, .junk, .junk, .int .i64 p.2, .int .i64 s], hl := fun s => [], ex := fun r => match r with | .inl r => .ret | .inr r => .exit 0, otl := fun r => match r with | .inl r => [.junk, .junk, .junk, .junk, .int .i64 r] | .inr r => [.junk], ohl := fun r => match r with | .inl r => [] | .inr r => [] }
def slices_IndexFunc___float32_float32__impl_areFinite_1_loop0_ext : St → Option ((List Nat × Int) × (Int) × List Nat) := fun S => match (S.tm 0).unK, (S.tm 1).unK, (S.tm 7).unK, (S.tm 8).unK with
  | .vslc 1 (.flt .f32) q0, .func (.func 182) [] [], .int .i64 q1, .int .i64 q2 => some ((q0, q1), q2, [])
  | _, _, _, _ => none
def slices_IndexFunc___float32_float32__impl_areFinite_1_loop0_post (p : List Nat × Int) (r : (Int) ⊕ (Unit)) : DT (Ex × St) := .ask (isL r) (.leaf (.ret, LSt [.junk, .junk, .junk, .junk, .int .i64 ((leftD r))] [])) (.leaf (.exit 0, LSt [.junk] []))
def slices_IndexFunc___float32_float32__impl_areFinite_1_loop0 (p : List Nat × Int) (s : Int) : (Int) ⊕ (Unit) := loopVal (slices_IndexFunc___float32_float32__impl_areFinite_1_loop0_step p) s
def slices_IndexFunc___float32_float32__impl_areFinite_1_loop0_ends (p : List Nat × Int) (s : Int) : Bool := loopEnds (slices_IndexFunc___float32_float32__impl_areFinite_1_loop0_step p) s
def slices_IndexFunc___float32_float32__impl_areFinite_1_loop0_F : LoopF := loopF slices_IndexFunc___float32_float32__impl_areFinite_1_loop0_step slices_IndexFunc___float32_float32__impl_areFinite_1_loop0_ext slices_IndexFunc___float32_float32__impl_areFinite_1_loop0_post
theorem slices_IndexFunc___float32_float32__impl_areFinite_1_loop0_hext : ∀ S p s fl, slices_IndexFunc___float32_float32__impl_areFinite_1_loop0_ext S = some (p, s, fl) → Norm S fl ((slices_IndexFunc___float32_float32__impl_areFinite_1_loop0_L p).tl s) ((slices_IndexFunc___float32_float32__impl_areFinite_1_loop0_L p).hl s) (slices_IndexFunc___float32_float32__impl_areFinite_1_loop0_L p).gl := by
  intro S p s fl h
  unfold slices_IndexFunc___float32_float32__impl_areFinite_1_loop0_ext at h
  (repeat' split at h) <;> first
    | (cases h; constructor <;> simp_all [slices_IndexFunc___float32_float32__impl_areFinite_1_loop0_L, keepT, keepH, rens, renH, PV.ren, Blk.ren, fOf, lget, nodup, natIn, lenEq, gtm, PV.unK])
    | cases h
theorem slices_IndexFunc___float32_float32__impl_areFinite_1_loop0_hpost : ∀ p r e S', (slices_IndexFunc___float32_float32__impl_areFinite_1_loop0_post p r).get = some (e, S') → e = (slices_IndexFunc___float32_float32__impl_areFinite_1_loop0_L p).ex r ∧ S' = LSt ((slices_IndexFunc___float32_float32__impl_areFinite_1_loop0_L p).otl r) ((slices_IndexFunc___float32_float32__impl_areFinite_1_loop0_L p).ohl r) ((slices_IndexFunc___float32_float32__impl_areFinite_1_loop0_L p).ogl r) := by
  intro p r e S' h
  unfold slices_IndexFunc___float32_float32__impl_areFinite_1_loop0_post at h
  cases r <;> (simp only [isL, DT.get, Option.some.injEq, Prod.mk.injEq] at h; exact ⟨h.1.symm, h.2.symm⟩)

def slices_IndexFunc___float32_float32__impl_areFinite_1_loops : Nat → Option LoopF := loopTab [(2, slices_IndexFunc___float32_float32__impl_areFinite_1_loop0_F)]
set_option maxRecDepth 100000 in
theorem slices_IndexFunc___float32_float32__impl_areFinite_1_l0 : LoopOK Try.prog ⟨gam [(182, impl_areFinite_1_c)], tab, 19, slices_IndexFunc___float32_float32__impl_areFinite_1_loops⟩ (lp Try.f219 0) :=
  loopOK_some (F := slices_IndexFunc___float32_float32__impl_areFinite_1_loop0_F) (by kernel_rfl) (loopF_ok (E := ⟨gam [(182, impl_areFinite_1_c)], tab, 19, slices_IndexFunc___float32_float32__impl_areFinite_1_loops⟩) ⟨gam_cons impl_areFinite_1_ok (gam_nil), tab_ok, by kernel_rfl⟩ (fuel := 100000) (loopsOK_list (l := []) (by kernel_rfl) trivial) (L := slices_IndexFunc___float32_float32__impl_areFinite_1_loop0_L) (fun p s => by unfold AgreeL; exact ⟨by kernel_rfl, by kernel_rfl⟩) (fun _ r h => by cases r <;> exact Ex.noConfusion h) slices_IndexFunc___float32_float32__impl_areFinite_1_loop0_hext slices_IndexFunc___float32_float32__impl_areFinite_1_loop0_hpost)
/-- slices.IndexFunc[[]float32,float32] -/
def slices_IndexFunc___float32_float32__impl_areFinite_1_tree (a0 : List Nat) : DT (Int) :=
  let x0 := ((List.length a0 : Nat) : Int);
  .need ((slices_IndexFunc___float32_float32__impl_areFinite_1_loop0_ends (a0, x0) 0)) (
  let x1 := slices_IndexFunc___float32_float32__impl_areFinite_1_loop0 (a0, x0) 0;
  .ask ((isL x1))
  (
   .leaf ((leftD x1)))
  (
   .leaf (-1)))
def slices_IndexFunc___float32_float32__impl_areFinite_1 (a0 : List Nat) : Int := (slices_IndexFunc___float32_float32__impl_areFinite_1_tree a0).val
def slices_IndexFunc___float32_float32__impl_areFinite_1_need (a0 : List Nat) : Bool := (slices_IndexFunc___float32_float32__impl_areFinite_1_tree a0).ok
def slices_IndexFunc___float32_float32__impl_areFinite_1_mk (p : Int) : Ret := ⟨.int .i64 p, []⟩
def slices_IndexFunc___float32_float32__impl_areFinite_1_c0 : Con := fun args => match args with
  | [.vslc 1 (.flt .f32) a0, .func (.func 182) [] []] => some (.need (slices_IndexFunc___float32_float32__impl_areFinite_1_need a0) (.leaf (slices_IndexFunc___float32_float32__impl_areFinite_1_mk (slices_IndexFunc___float32_float32__impl_areFinite_1 a0))))
  | _ => none
set_option maxRecDepth 100000 in
theorem slices_IndexFunc___float32_float32__impl_areFinite_1_ok0 : FunOK Try.prog 219 slices_IndexFunc___float32_float32__impl_areFinite_1_c0.fn := by
  refine con_ok (Γ := gam [(182, impl_areFinite_1_c)]) (gam_cons impl_areFinite_1_ok (gam_nil)) tab_ok (by kernel_rfl) Try.func219 (by kernel_rfl) (by kernel_rfl) Try.ntmps219 Try.results219 (loops := slices_IndexFunc___float32_float32__impl_areFinite_1_loops) (loopsOK_list (l := [lp Try.f219 0]) (by kernel_rfl) ⟨slices_IndexFunc___float32_float32__impl_areFinite_1_l0, trivial⟩) 100000 fun args t h => ?_
  unfold slices_IndexFunc___float32_float32__impl_areFinite_1_c0 at h
  split at h
  · rename_i a0
    cases h
    exact ⟨rfl, agree_need (mk := slices_IndexFunc___float32_float32__impl_areFinite_1_mk) (t := slices_IndexFunc___float32_float32__impl_areFinite_1_tree a0) (by unfold Agree; kernel_rfl)⟩
  · cases h
def slices_IndexFunc___float32_float32__impl_areFinite_1_c : Con := fun args => slices_IndexFunc___float32_float32__impl_areFinite_1_c0 (norms 0 [.slc (.flt .f32), .none] args)
set_option maxRecDepth 100000 in
theorem slices_IndexFunc___float32_float32__impl_areFinite_1_ok : FunOK Try.prog 219 slices_IndexFunc___float32_float32__impl_areFinite_1_c.fn := con_norm [.slc (.flt .f32), .none] slices_IndexFunc___float32_float32__impl_areFinite_1_ok0

/-- slices.ContainsFunc[[]float32,float32] -/
def slices_ContainsFunc___float32_float32__impl_areFinite_1_tree (a0 : List Nat) : DT (Bool) :=
  .need ((slices_IndexFunc___float32_float32__impl_areFinite_1_need a0 )) (
  let x0 := slices_IndexFunc___float32_float32__impl_areFinite_1 a0 ;
  let x1 := decide (x0 ≥ 0);
  .leaf x1)
def slices_ContainsFunc___float32_float32__impl_areFinite_1 (a0 : List Nat) : Bool := (slices_ContainsFunc___float32_float32__impl_areFinite_1_tree a0).val
def slices_ContainsFunc___float32_float32__impl_areFinite_1_need (a0 : List Nat) : Bool := (slices_ContainsFunc___float32_float32__impl_areFinite_1_tree a0).ok
def slices_ContainsFunc___float32_float32__impl_areFinite_1_mk (p : Bool) : Ret := ⟨.bool p, []⟩
def slices_ContainsFunc___float32_float32__impl_areFinite_1_c0 : Con := fun args => match args with
  | [.vslc 1 (.flt .f32) a0, .func (.func 182) [] []] => some (.need (slices_ContainsFunc___float32_float32__impl_areFinite_1_need a0) (.leaf (slices_ContainsFunc___float32_float32__impl_areFinite_1_mk (slices_ContainsFunc___float32_float32__impl_areFinite_1 a0))))
  | _ => none
set_option maxRecDepth 100000 in
theorem slices_ContainsFunc___float32_float32__impl_areFinite_1_ok0 : FunOK Try.prog 181 slices_ContainsFunc___float32_float32__impl_areFinite_1_c0.fn := by
  refine con_ok (Γ := gam [(219, slices_IndexFunc___float32_float32__impl_areFinite_1_c)]) (gam_cons slices_IndexFunc___float32_float32__impl_areFinite_1_ok (gam_nil)) tab_ok (by kernel_rfl) Try.func181 (by kernel_rfl) (by kernel_rfl) Try.ntmps181 Try.results181 (loopsOK_none rfl _) 100000 fun args t h => ?_
  unfold slices_ContainsFunc___float32_float32__impl_areFinite_1_c0 at h
  split at h
  · rename_i a0
    cases h
    exact ⟨rfl, agree_need (mk := slices_ContainsFunc___float32_float32__impl_areFinite_1_mk) (t := slices_ContainsFunc___float32_float32__impl_areFinite_1_tree a0) (by unfold Agree; kernel_rfl)⟩
  · cases h
def slices_ContainsFunc___float32_float32__impl_areFinite_1_c : Con := fun args => slices_ContainsFunc___float32_float32__impl_areFinite_1_c0 (norms 0 [.slc (.flt .f32), .none] args)
set_option maxRecDepth 100000 in
theorem slices_ContainsFunc___float32_float32__impl_areFinite_1_ok : FunOK Try.prog 181 slices_ContainsFunc___float32_float32__impl_areFinite_1_c.fn := con_norm [.slc (.flt .f32), .none] slices_ContainsFunc___float32_float32__impl_areFinite_1_ok0

/-- loop.example/g01284/impl.areFinite -/
def impl_areFinite_tree (a0 : List Nat) : DT (Bool) :=
  .need ((slices_ContainsFunc___float32_float32__impl_areFinite_1_need a0 )) (
  let x0 := slices_ContainsFunc___float32_float32__impl_areFinite_1 a0 ;
  .leaf (!x0))
def impl_areFinite (a0 : List Nat) : Bool := (impl_areFinite_tree a0).val
def impl_areFinite_need (a0 : List Nat) : Bool := (impl_areFinite_tree a0).ok
def impl_areFinite_mk (p : Bool) : Ret := ⟨.bool p, []⟩
def impl_areFinite_c0 : Con := fun args => match args with
  | [.vslc 1 (.flt .f32) a0] => some (.need (impl_areFinite_need a0) (.leaf (impl_areFinite_mk (impl_areFinite a0))))
  | _ => none
set_option maxRecDepth 100000 in
theorem impl_areFinite_ok0 : FunOK Try.prog 113 impl_areFinite_c0.fn := by
  refine con_ok (Γ := gam [(181, slices_ContainsFunc___float32_float32__impl_areFinite_1_c)]) (gam_cons slices_ContainsFunc___float32_float32__impl_areFinite_1_ok (gam_nil)) tab_ok (by kernel_rfl) Try.func113 (by kernel_rfl) (by kernel_rfl) Try.ntmps113 Try.results113 (loopsOK_none rfl _) 100000 fun args t h => ?_
  unfold impl_areFinite_c0 at h
  split at h
  · rename_i a0
    cases h
    exact ⟨rfl, agree_need (mk := impl_areFinite_mk) (t := impl_areFinite_tree a0) (by unfold Agree; kernel_rfl)⟩
  · cases h
def impl_areFinite_c : Con := fun args => impl_areFinite_c0 (norms 0 [.slc (.flt .f32)] args)
set_option maxRecDepth 100000 in
theorem impl_areFinite_ok : FunOK Try.prog 113 impl_areFinite_c.fn := con_norm [.slc (.flt .f32)] impl_areFinite_ok0

/-- loop.example/g01284/impl.isTurn -/
def impl_isTurn_tree (a0 : Nat) : DT (Bool) :=
  let x0 := fge .f32 a0 0;
  .ask x0
  (
   let x1 := flt .f32 a0 1065353216;
   .leaf x1)
  (
   .leaf false)
def impl_isTurn (a0 : Nat) : Bool := (impl_isTurn_tree a0).val
def impl_isTurn_mk (p : Bool) : Ret := ⟨.bool p, []⟩
def impl_isTurn_c : Con := fun args => match args with
  | [.flt .f32 a0] => some (.leaf (impl_isTurn_mk (impl_isTurn a0)))
  | _ => none
set_option maxRecDepth 100000 in
theorem impl_isTurn_ok : FunOK Try.prog 160 impl_isTurn_c.fn := by
  refine con_ok (Γ := gam []) (gam_nil) tab_ok (by kernel_rfl) Try.func160 (by kernel_rfl) (by kernel_rfl) Try.ntmps160 Try.results160 (loopsOK_none rfl _) 100000 fun args t h => ?_
  unfold impl_isTurn_c at h
  split at h
  · rename_i a0
    cases h
    exact ⟨rfl, agree_tot (mk := impl_isTurn_mk) (t := impl_isTurn_tree a0) (by unfold Agree; kernel_rfl) (by kernel_rfl)⟩
  · cases h

/-- (loop.example/g01284/impl.Orbit).isEllipse -/
def impl_Orbit_isEllipse_tree (a0 : Orbit) : DT (Bool) :=
  let x0 := fgt .f32 a0.Long 0;
  .ask x0
  (
   let x1 := fge .f32 a0.Round 0;
   .ask x1
   (
    let x2 := flt .f32 a0.Round 1065353216;
    .ask x2
    (
     let x3 := impl_isTurn a0.Phase;
     .leaf x3)
    (
     .leaf false))
   (
    .leaf false))
  (
   .leaf false)
def impl_Orbit_isEllipse (a0 : Orbit) : Bool := (impl_Orbit_isEllipse_tree a0).val
def impl_Orbit_isEllipse_mk (p : Bool) : Ret := ⟨.bool p, []⟩
def impl_Orbit_isEllipse_c : Con := fun args => match args with
  | [.agg [.flt .f32 a0_0, .flt .f32 a0_1, .flt .f32 a0_2, .flt .f32 a0_3, .flt .f32 a0_4, .flt .f32 a0_5]] => some (.leaf (impl_Orbit_isEllipse_mk (impl_Orbit_isEllipse (⟨a0_0, a0_1, a0_2, a0_3, a0_4, a0_5⟩ : Orbit))))
  | _ => none
set_option maxRecDepth 100000 in
theorem impl_Orbit_isEllipse_ok : FunOK Try.prog 161 impl_Orbit_isEllipse_c.fn := by
  refine con_ok (Γ := gam [(160, impl_isTurn_c)]) (gam_cons impl_isTurn_ok (gam_nil)) tab_ok (by kernel_rfl) Try.func161 (by kernel_rfl) (by kernel_rfl) Try.ntmps161 Try.results161 (loopsOK_none rfl _) 100000 fun args t h => ?_
  unfold impl_Orbit_isEllipse_c at h
  split at h
  · rename_i a0_0 a0_1 a0_2 a0_3 a0_4 a0_5
    cases h
    exact ⟨rfl, agree_tot (mk := impl_Orbit_isEllipse_mk) (t := impl_Orbit_isEllipse_tree (⟨a0_0, a0_1, a0_2, a0_3, a0_4, a0_5⟩ : Orbit)) (by unfold Agree; kernel_rfl) (by kernel_rfl)⟩
  · cases h

/-- (loop.example/g01284/impl.Orbit).isBranch -/
def impl_Orbit_isBranch_tree (a0 : Orbit) : DT (Bool) :=
  let x0 := flt .f32 a0.Long 0;
  .ask x0
  (
   let x1 := fgt .f32 a0.Round 1065353216;
   .ask x1
   (
    let x2 := fge .f32 a0.Phase 3246391296;
    .ask x2
    (
     let x3 := fle .f32 a0.Phase 1098907648;
     .leaf x3)
    (
     .leaf false))
   (
    .leaf false))
  (
   .leaf false)
def impl_Orbit_isBranch (a0 : Orbit) : Bool := (impl_Orbit_isBranch_tree a0).val
def impl_Orbit_isBranch_mk (p : Bool) : Ret := ⟨.bool p, []⟩
def impl_Orbit_isBranch_c : Con := fun args => match args with
  | [.agg [.flt .f32 a0_0, .flt .f32 a0_1, .flt .f32 a0_2, .flt .f32 a0_3, .flt .f32 a0_4, .flt .f32 a0_5]] => some (.leaf (impl_Orbit_isBranch_mk (impl_Orbit_isBranch (⟨a0_0, a0_1, a0_2, a0_3, a0_4, a0_5⟩ : Orbit))))
  | _ => none
set_option maxRecDepth 100000 in
theorem impl_Orbit_isBranch_ok : FunOK Try.prog 162 impl_Orbit_isBranch_c.fn := by
  refine con_ok (Γ := gam []) (gam_nil) tab_ok (by kernel_rfl) Try.func162 (by kernel_rfl) (by kernel_rfl) Try.ntmps162 Try.results162 (loopsOK_none rfl _) 100000 fun args t h => ?_
  unfold impl_Orbit_isBranch_c at h
  split at h
  · rename_i a0_0 a0_1 a0_2 a0_3 a0_4 a0_5
    cases h
    exact ⟨rfl, agree_tot (mk := impl_Orbit_isBranch_mk) (t := impl_Orbit_isBranch_tree (⟨a0_0, a0_1, a0_2, a0_3, a0_4, a0_5⟩ : Orbit)) (by unfold Agree; kernel_rfl) (by kernel_rfl)⟩
  · cases h

/-- loop.example/g01284/impl.ValidOrbit -/
def impl_ValidOrbit_tree (a0 : Orbit) : DT (Bool) :=
  .need ((impl_areFinite_need ([a0.Long, a0.Round, a0.Tilt, a0.Node, a0.Peri, a0.Phase]))) (
  let x0 := impl_areFinite ([a0.Long, a0.Round, a0.Tilt, a0.Node, a0.Peri, a0.Phase]);
  .ask x0
  (
   let x1 := fge .f32 a0.Tilt 0;
   .ask x1
   (
    let x2 := fle .f32 a0.Tilt 1056964608;
    .ask x2
    (
     let x3 := impl_isTurn a0.Node;
     .ask x3
     (
      let x4 := impl_isTurn a0.Peri;
      .ask x4
      (
       let x5 := impl_Orbit_isEllipse (⟨a0.Long, a0.Round, a0.Tilt, a0.Node, a0.Peri, a0.Phase⟩ : Orbit);
       .ask x5
       (
        .leaf true)
       (
        let x6 := impl_Orbit_isBranch (⟨a0.Long, a0.Round, a0.Tilt, a0.Node, a0.Peri, a0.Phase⟩ : Orbit);
        .leaf x6))
      (
       .leaf false))
     (
      .leaf false))
    (
     .leaf false))
   (
    .leaf false))
  (
   .leaf false))
def impl_ValidOrbit (a0 : Orbit) : Bool := (impl_ValidOrbit_tree a0).val
def impl_ValidOrbit_need (a0 : Orbit) : Bool := (impl_ValidOrbit_tree a0).ok
def impl_ValidOrbit_mk (p : Bool) : Ret := ⟨.bool p, []⟩
def impl_ValidOrbit_c : Con := fun args => match args with
  | [.agg [.flt .f32 a0_0, .flt .f32 a0_1, .flt .f32 a0_2, .flt .f32 a0_3, .flt .f32 a0_4, .flt .f32 a0_5]] => some (.need (impl_ValidOrbit_need (⟨a0_0, a0_1, a0_2, a0_3, a0_4, a0_5⟩ : Orbit)) (.leaf (impl_ValidOrbit_mk (impl_ValidOrbit (⟨a0_0, a0_1, a0_2, a0_3, a0_4, a0_5⟩ : Orbit)))))
  | _ => none
set_option maxRecDepth 100000 in
theorem impl_ValidOrbit_ok : FunOK Try.prog 79 impl_ValidOrbit_c.fn := by
  refine con_ok (Γ := gam [(113, impl_areFinite_c), (160, impl_isTurn_c), (161, impl_Orbit_isEllipse_c), (162, impl_Orbit_isBranch_c)]) (gam_cons impl_areFinite_ok (gam_cons impl_isTurn_ok (gam_cons impl_Orbit_isEllipse_ok (gam_cons impl_Orbit_isBranch_ok (gam_nil))))) tab_ok (by kernel_rfl) Try.func79 (by kernel_rfl) (by kernel_rfl) Try.ntmps79 Try.results79 (loopsOK_none rfl _) 100000 fun args t h => ?_
  unfold impl_ValidOrbit_c at h
  split at h
  · rename_i a0_0 a0_1 a0_2 a0_3 a0_4 a0_5
    cases h
    exact ⟨rfl, agree_need (mk := impl_ValidOrbit_mk) (t := impl_ValidOrbit_tree (⟨a0_0, a0_1, a0_2, a0_3, a0_4, a0_5⟩ : Orbit)) (by unfold Agree; kernel_rfl)⟩
  · cases h

/-- loop.example/g01284/impl.ValidEntry -/
def impl_ValidEntry_tree (a0 : Entry) : DT (Bool) :=
  .need ((impl_IsName_need a0.Name)) (
  let x0 := impl_IsName a0.Name;
  .ask x0
  (
   .need ((impl_aLength_need a0.Mass)) (
   let x1 := impl_aLength a0.Mass;
   .ask x1
   (
    .need ((impl_ValidOrbit_need (⟨a0.Orb.Long, a0.Orb.Round, a0.Orb.Tilt, a0.Orb.Node, a0.Orb.Peri, a0.Orb.Phase⟩ : Orbit))) (
    let x2 := impl_ValidOrbit (⟨a0.Orb.Long, a0.Orb.Round, a0.Orb.Tilt, a0.Orb.Node, a0.Orb.Peri, a0.Orb.Phase⟩ : Orbit);
    .leaf x2))
   (
    .leaf false)))
  (
   .leaf false))
def impl_ValidEntry (a0 : Entry) : Bool := (impl_ValidEntry_tree a0).val
def impl_ValidEntry_need (a0 : Entry) : Bool := (impl_ValidEntry_tree a0).ok
def impl_ValidEntry_mk (p : Bool) : Ret := ⟨.bool p, []⟩
def impl_ValidEntry_c : Con := fun args => match args with
  | [.agg [.str a0_0, .flt .f32 a0_1, .flt .f32 a0_2, .flt .f32 a0_3, .flt .f32 a0_4, .flt .f32 a0_5, .flt .f32 a0_6, .flt .f32 a0_7]] => some (.need (impl_ValidEntry_need (⟨a0_0, a0_1, ⟨a0_2, a0_3, a0_4, a0_5, a0_6, a0_7⟩⟩ : Entry)) (.leaf (impl_ValidEntry_mk (impl_ValidEntry (⟨a0_0, a0_1, ⟨a0_2, a0_3, a0_4, a0_5, a0_6, a0_7⟩⟩ : Entry)))))
  | _ => none
set_option maxRecDepth 100000 in
theorem impl_ValidEntry_ok : FunOK Try.prog 58 impl_ValidEntry_c.fn := by
  refine con_ok (Γ := gam [(138, impl_IsName_c), (106, impl_aLength_c), (79, impl_ValidOrbit_c)]) (gam_cons impl_IsName_ok (gam_cons impl_aLength_ok (gam_cons impl_ValidOrbit_ok (gam_nil)))) tab_ok (by kernel_rfl) Try.func58 (by kernel_rfl) (by kernel_rfl) Try.ntmps58 Try.results58 (loopsOK_none rfl _) 100000 fun args t h => ?_
  unfold impl_ValidEntry_c at h
  split at h
  · rename_i a0_0 a0_1 a0_2 a0_3 a0_4 a0_5 a0_6 a0_7
    cases h
    exact ⟨rfl, agree_need (mk := impl_ValidEntry_mk) (t := impl_ValidEntry_tree (⟨a0_0, a0_1, ⟨a0_2, a0_3, a0_4, a0_5, a0_6, a0_7⟩⟩ : Entry)) (by unfold Agree; kernel_rfl)⟩
  · cases h

/-- (loop.example/g01284/impl.Orbit).numbers -/
def impl_Orbit_numbers_tree (a0 : Orbit) : DT (List Nat) :=
  .leaf ([a0.Long, a0.Round, a0.Tilt, a0.Node, a0.Peri, a0.Phase])
def impl_Orbit_numbers (a0 : Orbit) : List Nat := (impl_Orbit_numbers_tree a0).val
def impl_Orbit_numbers_mk (p : List Nat) : Ret := ⟨.own 0, [.typed 28 (.flt .f32) p]⟩
def impl_Orbit_numbers_c : Con := fun args => match args with
  | [.agg [.flt .f32 a0_0, .flt .f32 a0_1, .flt .f32 a0_2, .flt .f32 a0_3, .flt .f32 a0_4, .flt .f32 a0_5]] => some (.leaf (impl_Orbit_numbers_mk (impl_Orbit_numbers (⟨a0_0, a0_1, a0_2, a0_3, a0_4, a0_5⟩ : Orbit))))
  | _ => none
set_option maxRecDepth 100000 in
theorem impl_Orbit_numbers_ok : FunOK Try.prog 199 impl_Orbit_numbers_c.fn := by
  refine con_ok (Γ := gam []) (gam_nil) tab_ok (by kernel_rfl) Try.func199 (by kernel_rfl) (by kernel_rfl) Try.ntmps199 Try.results199 (loopsOK_none rfl _) 100000 fun args t h => ?_
  unfold impl_Orbit_numbers_c at h
  split at h
  · rename_i a0_0 a0_1 a0_2 a0_3 a0_4 a0_5
    cases h
    exact ⟨rfl, agree_tot (mk := impl_Orbit_numbers_mk) (t := impl_Orbit_numbers_tree (⟨a0_0, a0_1, a0_2, a0_3, a0_4, a0_5⟩ : Orbit)) (by unfold Agree; kernel_rfl) (by kernel_rfl)⟩
  · cases h

/-- loop.example/g01284/impl.BitsOf -/
def impl_BitsOf_tree (a0 : Nat) : DT (Int) :=
  let x0 := fne .f32 a0 a0;
  .ask x0
  (
   .leaf 2143289344)
  (
   .need ((!isNaN .f32 a0)) (
   let x1 := IntKind.wrap .i64 ((a0 : Nat) : Int);
   .leaf x1))
def impl_BitsOf (a0 : Nat) : Int := (impl_BitsOf_tree a0).val
def impl_BitsOf_need (a0 : Nat) : Bool := (impl_BitsOf_tree a0).ok
def impl_BitsOf_mk (p : Int) : Ret := ⟨.int .i64 p, []⟩
def impl_BitsOf_c : Con := fun args => match args with
  | [.flt .f32 a0] => some (.need (impl_BitsOf_need a0) (.leaf (impl_BitsOf_mk (impl_BitsOf a0))))
  | _ => none
set_option maxRecDepth 100000 in
theorem impl_BitsOf_ok : FunOK Try.prog 200 impl_BitsOf_c.fn := by
  refine con_ok (Γ := gam [(225, math_Float32bits_c)]) (gam_cons math_Float32bits_ok (gam_nil)) tab_ok (by kernel_rfl) Try.func200 (by kernel_rfl) (by kernel_rfl) Try.ntmps200 Try.results200 (loopsOK_none rfl _) 100000 fun args t h => ?_
  unfold impl_BitsOf_c at h
  split at h
  · rename_i a0
    cases h
    exact ⟨rfl, agree_need (mk := impl_BitsOf_mk) (t := impl_BitsOf_tree a0) (by unfold Agree; kernel_rfl)⟩
  · cases h

/-- a loop of impl_check -/
def impl_check_loop0_step (p : (List UInt8) × Int) (s : Int × Int) : Round (Int × Int) (Int) :=
  let x0 := decide (s.2 < p.2);
  .ask x0
  (
   let x1 := IntKind.wrap .i64 (809 * s.1);
   .need ((decide (0 ≤ s.2) && decide (s.2 < ((List.length p.1 : Nat) : Int)))) (
   let x2 := ((List.getD p.1 (Int.toNat s.2) 0).toNat : Int);
   let x3 := IntKind.wrap .i64 x2;
   let x4 := IntKind.wrap .i64 (x1 + x3);
   let x5 := IntKind.wrap .i64 (x4 + 103);
   .skip (
   let x6 := Int.tmod x5 65003;
   let x7 := IntKind.wrap .i64 (s.2 + 1);
   .leaf (.inl (x6, x7), []))))
  (
   .leaf (.inr s.1, []))
def impl_check_loop0_L (p : (List UInt8) × Int) : LoopS (Int × Int) (Int) := { tl := fun s => [.int .i64 s.1, .str p.1, .junk, .junk, .junk, .junk, .junk, .int .i64 p.2, .int .i64 s.2], hl := fun s => [], ex := fun r => .exit 0, otl := fun r => [.int .i64 r], ohl := fun r => [] }
def impl_check_loop0_ext : St → Option (((List UInt8) × Int) × (Int × Int) × List Nat) := fun S => match (S.tm 0).unK, (S.tm 1).unK, (S.tm 7).unK, (S.tm 8).unK with
  | .int .i64 q0, .str q1, .int .i64 q2, .int .i64 q3 => some ((q1, q2), (q0, q3), [])
  | _, _, _, _ => none
def impl_check_loop0_post (p : (List UInt8) × Int) (r : Int) : DT (Ex × St) := .leaf (.exit 0, LSt [.int .i64 r] [])
def impl_check_loop0 (p : (List UInt8) × Int) (s : Int × Int) : Int := loopVal (impl_check_loop0_step p) s
def impl_check_loop0_ends (p : (List UInt8) × Int) (s : Int × Int) : Bool := loopEnds (impl_check_loop0_step p) s
def impl_check_loop0_F : LoopF := loopF impl_check_loop0_step impl_check_loop0_ext impl_check_loop0_post
theorem impl_check_loop0_hext : ∀ S p s fl, impl_check_loop0_ext S = some (p, s, fl) → Norm S fl ((impl_check_loop0_L p).tl s) ((impl_check_loop0_L p).hl s) (impl_check_loop0_L p).gl := by
  intro S p s fl h
  unfold impl_check_loop0_ext at h
  (repeat' split at h) <;> first
    | (cases h; constructor <;> simp_all [impl_check_loop0_L, keepT, keepH, rens, renH, PV.ren, Blk.ren, fOf, lget, nodup, natIn, lenEq, gtm, PV.unK])
    | cases h
theorem impl_check_loop0_hpost : ∀ p r e S', (impl_check_loop0_post p r).get = some (e, S') → e = (impl_check_loop0_L p).ex r ∧ S' = LSt ((impl_check_loop0_L p).otl r) ((impl_check_loop0_L p).ohl r) ((impl_check_loop0_L p).ogl r) := by
  intro p r e S' h
  unfold impl_check_loop0_post at h
  simp only [DT.get, Option.some.injEq, Prod.mk.injEq] at h; exact ⟨h.1.symm, h.2.symm⟩

def impl_check_loops : Nat → Option LoopF := loopTab [(2, impl_check_loop0_F)]
set_option maxRecDepth 100000 in
theorem impl_check_l0 : LoopOK Try.prog ⟨gam [], tab, 22, impl_check_loops⟩ (lp Try.f201 0) :=
  loopOK_some (F := impl_check_loop0_F) (by kernel_rfl) (loopF_ok (E := ⟨gam [], tab, 22, impl_check_loops⟩) ⟨gam_nil, tab_ok, by kernel_rfl⟩ (fuel := 100000) (loopsOK_list (l := []) (by kernel_rfl) trivial) (L := impl_check_loop0_L) (fun p s => by unfold AgreeL; exact ⟨by kernel_rfl, by kernel_rfl⟩) (fun _ _ h => Ex.noConfusion h) impl_check_loop0_hext impl_check_loop0_hpost)
/-- loop.example/g01284/impl.check -/
def impl_check_tree (a0 : Int) (a1 : (List UInt8)) : DT (Int) :=
  let x0 := ((List.length a1 : Nat) : Int);
  .need ((impl_check_loop0_ends (a1, x0) (a0, 0))) (
  let x1 := impl_check_loop0 (a1, x0) (a0, 0);
  .leaf x1)
def impl_check (a0 : Int) (a1 : (List UInt8)) : Int := (impl_check_tree a0 a1).val
def impl_check_need (a0 : Int) (a1 : (List UInt8)) : Bool := (impl_check_tree a0 a1).ok
def impl_check_mk (p : Int) : Ret := ⟨.int .i64 p, []⟩
def impl_check_c : Con := fun args => match args with
  | [.int .i64 a0, .str a1] => some (.need (impl_check_need a0 a1) (.leaf (impl_check_mk (impl_check a0 a1))))
  | _ => none
set_option maxRecDepth 100000 in
theorem impl_check_ok : FunOK Try.prog 201 impl_check_c.fn := by
  refine con_ok (Γ := gam []) (gam_nil) tab_ok (by kernel_rfl) Try.func201 (by kernel_rfl) (by kernel_rfl) Try.ntmps201 Try.results201 (loops := impl_check_loops) (loopsOK_list (l := [lp Try.f201 0]) (by kernel_rfl) ⟨impl_check_l0, trivial⟩) 100000 fun args t h => ?_
  unfold impl_check_c at h
  split at h
  · rename_i a0 a1
    cases h
    exact ⟨rfl, agree_need (mk := impl_check_mk) (t := impl_check_tree a0 a1) (by unfold Agree; kernel_rfl)⟩
  · cases h

/-- a loop of impl_storeEntry -/
def impl_storeEntry_loop0_step (p : Int × List Nat) (s : Int × List Int) : Round (Int × List Int) (List Int) :=
  let x0 := decide (s.1 < p.1);
  .ask x0
  (
   .need ((decide (0 ≤ s.1) && decide (s.1 < ((List.length p.2 : Nat) : Int)))) (
   .need ((decide ((Int.toNat s.1) < List.length p.2))) (
   let x1 := List.getD p.2 (Int.toNat s.1) default;
   .need ((impl_BitsOf_need x1)) (
   let x2 := impl_BitsOf x1;
   let x3 := IntKind.wrap .u8 x2;
   .skip (
   let x4 := Int.fdiv x2 (2 ^ (min (Int.toNat 8) (IntKind.bits .i64)));
   let x5 := IntKind.wrap .u8 x4;
   .skip (
   let x6 := Int.fdiv x2 (2 ^ (min (Int.toNat 16) (IntKind.bits .i64)));
   let x7 := IntKind.wrap .u8 x6;
   .skip (
   let x8 := Int.fdiv x2 (2 ^ (min (Int.toNat 24) (IntKind.bits .i64)));
   let x9 := IntKind.wrap .u8 x8;
   .need ((decide ((List.length s.2 + List.length [x3, x5, x7, x9]) * 1 ≤ 140737488355328) && decide (List.length s.2 + List.length [x3, x5, x7, x9] ≤ 9223372036854775807))) (
   let x10 := s.2 ++ [x3, x5, x7, x9];
   let x11 := IntKind.wrap .i64 (s.1 + 1);
   .leaf (.inl (x11, x10), [162, 1])))))))))
  (
   .leaf (.inr s.2, [0]))
def impl_storeEntry_loop0_L (p : Int × List Nat) : LoopS (Int × List Int) (List Int) := { tl := fun s => [.junk, .junk, .junk, .own 0, .junk, .junk, .junk, .junk, .junk, .junk, .junk, .junk, .junk, .junk, .junk, .junk, .junk, .junk, .junk, .junk, .junk, .junk, .junk, .junk, .junk, .junk, .own 1, .int .i64 p.1, .int .i64 s.1], hl := fun s => [some (.typed 5 (.int .u8) s.2), some (.typed 28 (.flt .f32) p.2)], ex := fun r => .exit 0, otl := fun r => [.junk, .junk, .junk, .own 0], ohl := fun r => [some (.typed 5 (.int .u8) r)] }
def impl_storeEntry_loop0_ext : St → Option ((Int × List Nat) × (Int × List Int) × List Nat) := fun S => match (S.tm 3).unK, (S.tm 26).unK, (S.tm 27).unK, (S.tm 28).unK with
  | .own i0, .own i1, .int .i64 q0, .int .i64 q1 => (match S.hp i0 with
    | some (.typed 5 (.int .u8) q2) => (match S.hp i1 with
    | some (.typed 28 (.flt .f32) q3) => (if nodup [i0, i1] = true then some ((q0, q3), (q1, q2), [i0, i1]) else none)
    | _ => none)
    | _ => none)
  | _, _, _, _ => none
def impl_storeEntry_loop0_post (p : Int × List Nat) (r : List Int) : DT (Ex × St) := .leaf (.exit 0, LSt [.junk, .junk, .junk, .own 0] [some (.typed 5 (.int .u8) r)])
def impl_storeEntry_loop0 (p : Int × List Nat) (s : Int × List Int) : List Int := loopVal (impl_storeEntry_loop0_step p) s
def impl_storeEntry_loop0_ends (p : Int × List Nat) (s : Int × List Int) : Bool := loopEnds (impl_storeEntry_loop0_step p) s
def impl_storeEntry_loop0_F : LoopF := loopF impl_storeEntry_loop0_step impl_storeEntry_loop0_ext impl_storeEntry_loop0_post
theorem impl_storeEntry_loop0_hext : ∀ S p s fl, impl_storeEntry_loop0_ext S = some (p, s, fl) → Norm S fl ((impl_storeEntry_loop0_L p).tl s) ((impl_storeEntry_loop0_L p).hl s) (impl_storeEntry_loop0_L p).gl := by
  intro S p s fl h
  unfold impl_storeEntry_loop0_ext at h
  (repeat' split at h) <;> first
    | (cases h; constructor <;> simp_all [impl_storeEntry_loop0_L, keepT, keepH, rens, renH, PV.ren, Blk.ren, fOf, lget, nodup, natIn, lenEq, gtm, PV.unK])
    | cases h
theorem impl_storeEntry_loop0_hpost : ∀ p r e S', (impl_storeEntry_loop0_post p r).get = some (e, S') → e = (impl_storeEntry_loop0_L p).ex r ∧ S' = LSt ((impl_storeEntry_loop0_L p).otl r) ((impl_storeEntry_loop0_L p).ohl r) ((impl_storeEntry_loop0_L p).ogl r) := by
  intro p r e S' h
  unfold impl_storeEntry_loop0_post at h
  simp only [DT.get, Option.some.injEq, Prod.mk.injEq] at h; exact ⟨h.1.symm, h.2.symm⟩

def impl_storeEntry_loops : Nat → Option LoopF := loopTab [(4, impl_storeEntry_loop0_F)]
set_option maxRecDepth 100000 in
theorem impl_storeEntry_l0 : LoopOK Try.prog ⟨gam [(199, impl_Orbit_numbers_c), (200, impl_BitsOf_c), (201, impl_check_c)], tab, 61, impl_storeEntry_loops⟩ (lp Try.f146 0) :=
  loopOK_some (F := impl_storeEntry_loop0_F) (by kernel_rfl) (loopF_ok (E := ⟨gam [(199, impl_Orbit_numbers_c), (200, impl_BitsOf_c), (201, impl_check_c)], tab, 61, impl_storeEntry_loops⟩) ⟨gam_cons impl_Orbit_numbers_ok (gam_cons impl_BitsOf_ok (gam_cons impl_check_ok (gam_nil))), tab_ok, by kernel_rfl⟩ (fuel := 100000) (loopsOK_list (l := []) (by kernel_rfl) trivial) (L := impl_storeEntry_loop0_L) (fun p s => by unfold AgreeL; exact ⟨by kernel_rfl, by kernel_rfl⟩) (fun _ _ h => Ex.noConfusion h) impl_storeEntry_loop0_hext impl_storeEntry_loop0_hpost)
/-- loop.example/g01284/impl.storeEntry -/
def impl_storeEntry_tree (a0 : Entry) : DT ((List UInt8)) :=
  .skip (
  let x0 := ((List.length a0.Name : Nat) : Int);
  let x1 := IntKind.wrap .u8 x0;
  .skip (
  let x2 := [79, 82, 66, 49] ++ [x1];
  .need ((decide ((List.length x2 + List.length (u8i a0.Name)) * 1 ≤ 140737488355328) && decide (List.length x2 + List.length (u8i a0.Name) ≤ 9223372036854775807))) (
  let x3 := x2 ++ (u8i a0.Name);
  let x4 := impl_Orbit_numbers (⟨a0.Orb.Long, a0.Orb.Round, a0.Orb.Tilt, a0.Orb.Node, a0.Orb.Peri, a0.Orb.Phase⟩ : Orbit);
  .need ((decide ((List.length [a0.Mass] + List.length x4) * 4 ≤ 140737488355328) && decide (List.length [a0.Mass] + List.length x4 ≤ 9223372036854775807))) (
  let x5 := [a0.Mass] ++ x4;
  let x6 := ((List.length x5 : Nat) : Int);
  .need ((impl_storeEntry_loop0_ends (x6, x5) (0, x3))) (
  let x7 := impl_storeEntry_loop0 (x6, x5) (0, x3);
  let x8 := strOf x7;
  .need ((impl_check_need 0 x8)) (
  let x9 := impl_check 0 x8;
  let x10 := IntKind.wrap .u8 x9;
  .skip (
  let x11 := Int.fdiv x9 (2 ^ (min (Int.toNat 8) (IntKind.bits .i64)));
  let x12 := IntKind.wrap .u8 x11;
  .need ((decide ((List.length x7 + List.length [x10, x12]) * 1 ≤ 140737488355328) && decide (List.length x7 + List.length [x10, x12] ≤ 9223372036854775807))) (
  let x13 := x7 ++ [x10, x12];
  let x14 := strOf x13;
  .leaf x14))))))))
def impl_storeEntry (a0 : Entry) : (List UInt8) := (impl_storeEntry_tree a0).val
def impl_storeEntry_need (a0 : Entry) : Bool := (impl_storeEntry_tree a0).ok
def impl_storeEntry_mk (p : (List UInt8)) : Ret := ⟨.str p, []⟩
def impl_storeEntry_c : Con := fun args => match args with
  | [.agg [.str a0_0, .flt .f32 a0_1, .flt .f32 a0_2, .flt .f32 a0_3, .flt .f32 a0_4, .flt .f32 a0_5, .flt .f32 a0_6, .flt .f32 a0_7]] => some (.need (impl_storeEntry_need (⟨a0_0, a0_1, ⟨a0_2, a0_3, a0_4, a0_5, a0_6, a0_7⟩⟩ : Entry)) (.leaf (impl_storeEntry_mk (impl_storeEntry (⟨a0_0, a0_1, ⟨a0_2, a0_3, a0_4, a0_5, a0_6, a0_7⟩⟩ : Entry)))))
  | _ => none
set_option maxRecDepth 100000 in
theorem impl_storeEntry_ok : FunOK Try.prog 146 impl_storeEntry_c.fn := by
  refine con_ok (Γ := gam [(199, impl_Orbit_numbers_c), (200, impl_BitsOf_c), (201, impl_check_c)]) (gam_cons impl_Orbit_numbers_ok (gam_cons impl_BitsOf_ok (gam_cons impl_check_ok (gam_nil)))) tab_ok (by kernel_rfl) Try.func146 (by kernel_rfl) (by kernel_rfl) Try.ntmps146 Try.results146 (loops := impl_storeEntry_loops) (loopsOK_list (l := [lp Try.f146 0]) (by kernel_rfl) ⟨impl_storeEntry_l0, trivial⟩) 100000 fun args t h => ?_
  unfold impl_storeEntry_c at h
  split at h
  · rename_i a0_0 a0_1 a0_2 a0_3 a0_4 a0_5 a0_6 a0_7
    cases h
    exact ⟨rfl, agree_need (mk := impl_storeEntry_mk) (t := impl_storeEntry_tree (⟨a0_0, a0_1, ⟨a0_2, a0_3, a0_4, a0_5, a0_6, a0_7⟩⟩ : Entry)) (by unfold Agree; kernel_rfl)⟩
  · cases h

/-- loop.example/g01284/impl.loadFirst -/
def impl_loadFirst_tree (a0 : (List UInt8)) : DT (Entry × Int × Bool) :=
  let x0 := ((List.length a0 : Nat) : Int);
  let x1 := decide (x0 < 5);
  .ask x1
  (
   .leaf ((⟨[], 0, ⟨0, 0, 0, 0, 0, 0⟩⟩ : Entry), 0, false))
  (
   let x2 := ((List.length a0 : Nat) : Int);
   .need ((decide (0 ≤ 4) && decide (4 < ((List.length a0 : Nat) : Int)))) (
   let x3 := ((List.getD a0 4 0).toNat : Int);
   let x4 := IntKind.wrap .i64 x3;
   let x5 := IntKind.wrap .i64 (35 + x4);
   let x6 := decide (x2 < x5);
   .ask x6
   (
    .leaf ((⟨[], 0, ⟨0, 0, 0, 0, 0, 0⟩⟩ : Entry), 0, false))
   (
    .need ((decide (0 ≤ 4) && decide (4 < ((List.length a0 : Nat) : Int)))) (
    let x7 := ((List.getD a0 4 0).toNat : Int);
    let x8 := IntKind.wrap .i64 x7;
    let x9 := IntKind.wrap .i64 (5 + x8);
    .need ((decide (0 ≤ x9) && decide (x9 ≤ ((List.length a0 : Nat) : Int)))) (
    .need ((decide (0 ≤ 5) && decide (5 ≤ (((Int.toNat x9) : Nat) : Int)))) (
    let x10 := List.drop 5 (List.take (Int.toNat x9) a0);
    .skip (
    let x11 := IntKind.wrap .i64 (5 + x8);
    let x12 := IntKind.wrap .i64 (x11 + 0);
    .need ((decide (0 ≤ x12) && decide (x12 < ((List.length a0 : Nat) : Int)))) (
    let x13 := ((List.getD a0 (Int.toNat x12) 0).toNat : Int);
    let x14 := IntKind.wrap .u32 x13;
    let x15 := IntKind.wrap .i64 (x12 + 1);
    .need ((decide (0 ≤ x15) && decide (x15 < ((List.length a0 : Nat) : Int)))) (
    let x16 := ((List.getD a0 (Int.toNat x15) 0).toNat : Int);
    let x17 := IntKind.wrap .u32 x16;
    .skip (
    let x18 := IntKind.wrap .u32 (x17 * 2 ^ (min (Int.toNat 8) (IntKind.bits .u32)));
    let x19 := IntKind.wrap .u32 (BitVec.ofInt (IntKind.bits .u32) x14 ||| BitVec.ofInt (IntKind.bits .u32) x18).toNat;
    let x20 := IntKind.wrap .i64 (x12 + 2);
    .need ((decide (0 ≤ x20) && decide (x20 < ((List.length a0 : Nat) : Int)))) (
    let x21 := ((List.getD a0 (Int.toNat x20) 0).toNat : Int);
    let x22 := IntKind.wrap .u32 x21;
    .skip (
    let x23 := IntKind.wrap .u32 (x22 * 2 ^ (min (Int.toNat 16) (IntKind.bits .u32)));
    let x24 := IntKind.wrap .u32 (BitVec.ofInt (IntKind.bits .u32) x19 ||| BitVec.ofInt (IntKind.bits .u32) x23).toNat;
    let x25 := IntKind.wrap .i64 (x12 + 3);
    .need ((decide (0 ≤ x25) && decide (x25 < ((List.length a0 : Nat) : Int)))) (
    let x26 := ((List.getD a0 (Int.toNat x25) 0).toNat : Int);
    let x27 := IntKind.wrap .u32 x26;
    .skip (
    let x28 := IntKind.wrap .u32 (x27 * 2 ^ (min (Int.toNat 24) (IntKind.bits .u32)));
    let x29 := IntKind.wrap .u32 (BitVec.ofInt (IntKind.bits .u32) x24 ||| BitVec.ofInt (IntKind.bits .u32) x28).toNat;
    let x30 := canon .f32 (Int.toNat x29);
    .skip (
    let x31 := ([] : List Nat) ++ [x30];
    .skip (
    let x32 := IntKind.wrap .i64 (5 + x8);
    let x33 := IntKind.wrap .i64 (x32 + 4);
    .need ((decide (0 ≤ x33) && decide (x33 < ((List.length a0 : Nat) : Int)))) (
    let x34 := ((List.getD a0 (Int.toNat x33) 0).toNat : Int);
    let x35 := IntKind.wrap .u32 x34;
    let x36 := IntKind.wrap .i64 (x33 + 1);
    .need ((decide (0 ≤ x36) && decide (x36 < ((List.length a0 : Nat) : Int)))) (
    let x37 := ((List.getD a0 (Int.toNat x36) 0).toNat : Int);
    let x38 := IntKind.wrap .u32 x37;
    .skip (
    let x39 := IntKind.wrap .u32 (x38 * 2 ^ (min (Int.toNat 8) (IntKind.bits .u32)));
    let x40 := IntKind.wrap .u32 (BitVec.ofInt (IntKind.bits .u32) x35 ||| BitVec.ofInt (IntKind.bits .u32) x39).toNat;
    let x41 := IntKind.wrap .i64 (x33 + 2);
    .need ((decide (0 ≤ x41) && decide (x41 < ((List.length a0 : Nat) : Int)))) (
    let x42 := ((List.getD a0 (Int.toNat x41) 0).toNat : Int);
    let x43 := IntKind.wrap .u32 x42;
    .skip (
    let x44 := IntKind.wrap .u32 (x43 * 2 ^ (min (Int.toNat 16) (IntKind.bits .u32)));
    let x45 := IntKind.wrap .u32 (BitVec.ofInt (IntKind.bits .u32) x40 ||| BitVec.ofInt (IntKind.bits .u32) x44).toNat;
    let x46 := IntKind.wrap .i64 (x33 + 3);
    .need ((decide (0 ≤ x46) && decide (x46 < ((List.length a0 : Nat) : Int)))) (
    let x47 := ((List.getD a0 (Int.toNat x46) 0).toNat : Int);
    let x48 := IntKind.wrap .u32 x47;
    .skip (
    let x49 := IntKind.wrap .u32 (x48 * 2 ^ (min (Int.toNat 24) (IntKind.bits .u32)));
    let x50 := IntKind.wrap .u32 (BitVec.ofInt (IntKind.bits .u32) x45 ||| BitVec.ofInt (IntKind.bits .u32) x49).toNat;
    let x51 := canon .f32 (Int.toNat x50);
    .skip (
    let x52 := x31 ++ [x51];
    .skip (
    let x53 := IntKind.wrap .i64 (5 + x8);
    let x54 := IntKind.wrap .i64 (x53 + 8);
    .need ((decide (0 ≤ x54) && decide (x54 < ((List.length a0 : Nat) : Int)))) (
    let x55 := ((List.getD a0 (Int.toNat x54) 0).toNat : Int);
    let x56 := IntKind.wrap .u32 x55;
    let x57 := IntKind.wrap .i64 (x54 + 1);
    .need ((decide (0 ≤ x57) && decide (x57 < ((List.length a0 : Nat) : Int)))) (
    let x58 := ((List.getD a0 (Int.toNat x57) 0).toNat : Int);
    let x59 := IntKind.wrap .u32 x58;
    .skip (
    let x60 := IntKind.wrap .u32 (x59 * 2 ^ (min (Int.toNat 8) (IntKind.bits .u32)));
    let x61 := IntKind.wrap .u32 (BitVec.ofInt (IntKind.bits .u32) x56 ||| BitVec.ofInt (IntKind.bits .u32) x60).toNat;
    let x62 := IntKind.wrap .i64 (x54 + 2);
    .need ((decide (0 ≤ x62) && decide (x62 < ((List.length a0 : Nat) : Int)))) (
    let x63 := ((List.getD a0 (Int.toNat x62) 0).toNat : Int);
    let x64 := IntKind.wrap .u32 x63;
    .skip (
    let x65 := IntKind.wrap .u32 (x64 * 2 ^ (min (Int.toNat 16) (IntKind.bits .u32)));
    let x66 := IntKind.wrap .u32 (BitVec.ofInt (IntKind.bits .u32) x61 ||| BitVec.ofInt (IntKind.bits .u32) x65).toNat;
    let x67 := IntKind.wrap .i64 (x54 + 3);
    .need ((decide (0 ≤ x67) && decide (x67 < ((List.length a0 : Nat) : Int)))) (
    let x68 := ((List.getD a0 (Int.toNat x67) 0).toNat : Int);
    let x69 := IntKind.wrap .u32 x68;
    .skip (
    let x70 := IntKind.wrap .u32 (x69 * 2 ^ (min (Int.toNat 24) (IntKind.bits .u32)));
    let x71 := IntKind.wrap .u32 (BitVec.ofInt (IntKind.bits .u32) x66 ||| BitVec.ofInt (IntKind.bits .u32) x70).toNat;
    let x72 := canon .f32 (Int.toNat x71);
    .skip (
    let x73 := x52 ++ [x72];
    .skip (
    let x74 := IntKind.wrap .i64 (5 + x8);
    let x75 := IntKind.wrap .i64 (x74 + 12);
    .need ((decide (0 ≤ x75) && decide (x75 < ((List.length a0 : Nat) : Int)))) (
    let x76 := ((List.getD a0 (Int.toNat x75) 0).toNat : Int);
    let x77 := IntKind.wrap .u32 x76;
    let x78 := IntKind.wrap .i64 (x75 + 1);
    .need ((decide (0 ≤ x78) && decide (x78 < ((List.length a0 : Nat) : Int)))) (
    let x79 := ((List.getD a0 (Int.toNat x78) 0).toNat : Int);
    let x80 := IntKind.wrap .u32 x79;
    .skip (
    let x81 := IntKind.wrap .u32 (x80 * 2 ^ (min (Int.toNat 8) (IntKind.bits .u32)));
    let x82 := IntKind.wrap .u32 (BitVec.ofInt (IntKind.bits .u32) x77 ||| BitVec.ofInt (IntKind.bits .u32) x81).toNat;
    let x83 := IntKind.wrap .i64 (x75 + 2);
    .need ((decide (0 ≤ x83) && decide (x83 < ((List.length a0 : Nat) : Int)))) (
    let x84 := ((List.getD a0 (Int.toNat x83) 0).toNat : Int);
    let x85 := IntKind.wrap .u32 x84;
    .skip (
    let x86 := IntKind.wrap .u32 (x85 * 2 ^ (min (Int.toNat 16) (IntKind.bits .u32)));
    let x87 := IntKind.wrap .u32 (BitVec.ofInt (IntKind.bits .u32) x82 ||| BitVec.ofInt (IntKind.bits .u32) x86).toNat;
    let x88 := IntKind.wrap .i64 (x75 + 3);
    .need ((decide (0 ≤ x88) && decide (x88 < ((List.length a0 : Nat) : Int)))) (
    let x89 := ((List.getD a0 (Int.toNat x88) 0).toNat : Int);
    let x90 := IntKind.wrap .u32 x89;
    .skip (
    let x91 := IntKind.wrap .u32 (x90 * 2 ^ (min (Int.toNat 24) (IntKind.bits .u32)));
    let x92 := IntKind.wrap .u32 (BitVec.ofInt (IntKind.bits .u32) x87 ||| BitVec.ofInt (IntKind.bits .u32) x91).toNat;
    let x93 := canon .f32 (Int.toNat x92);
    .skip (
    let x94 := x73 ++ [x93];
    .skip (
    let x95 := IntKind.wrap .i64 (5 + x8);
    let x96 := IntKind.wrap .i64 (x95 + 16);
    .need ((decide (0 ≤ x96) && decide (x96 < ((List.length a0 : Nat) : Int)))) (
    let x97 := ((List.getD a0 (Int.toNat x96) 0).toNat : Int);
    let x98 := IntKind.wrap .u32 x97;
    let x99 := IntKind.wrap .i64 (x96 + 1);
    .need ((decide (0 ≤ x99) && decide (x99 < ((List.length a0 : Nat) : Int)))) (
    let x100 := ((List.getD a0 (Int.toNat x99) 0).toNat : Int);
    let x101 := IntKind.wrap .u32 x100;
    .skip (
    let x102 := IntKind.wrap .u32 (x101 * 2 ^ (min (Int.toNat 8) (IntKind.bits .u32)));
    let x103 := IntKind.wrap .u32 (BitVec.ofInt (IntKind.bits .u32) x98 ||| BitVec.ofInt (IntKind.bits .u32) x102).toNat;
    let x104 := IntKind.wrap .i64 (x96 + 2);
    .need ((decide (0 ≤ x104) && decide (x104 < ((List.length a0 : Nat) : Int)))) (
    let x105 := ((List.getD a0 (Int.toNat x104) 0).toNat : Int);
    let x106 := IntKind.wrap .u32 x105;
    .skip (
    let x107 := IntKind.wrap .u32 (x106 * 2 ^ (min (Int.toNat 16) (IntKind.bits .u32)));
    let x108 := IntKind.wrap .u32 (BitVec.ofInt (IntKind.bits .u32) x103 ||| BitVec.ofInt (IntKind.bits .u32) x107).toNat;
    let x109 := IntKind.wrap .i64 (x96 + 3);
    .need ((decide (0 ≤ x109) && decide (x109 < ((List.length a0 : Nat) : Int)))) (
    let x110 := ((List.getD a0 (Int.toNat x109) 0).toNat : Int);
    let x111 := IntKind.wrap .u32 x110;
    .skip (
    let x112 := IntKind.wrap .u32 (x111 * 2 ^ (min (Int.toNat 24) (IntKind.bits .u32)));
    let x113 := IntKind.wrap .u32 (BitVec.ofInt (IntKind.bits .u32) x108 ||| BitVec.ofInt (IntKind.bits .u32) x112).toNat;
    let x114 := canon .f32 (Int.toNat x113);
    .skip (
    let x115 := x94 ++ [x114];
    .skip (
    let x116 := IntKind.wrap .i64 (5 + x8);
    let x117 := IntKind.wrap .i64 (x116 + 20);
    .need ((decide (0 ≤ x117) && decide (x117 < ((List.length a0 : Nat) : Int)))) (
    let x118 := ((List.getD a0 (Int.toNat x117) 0).toNat : Int);
    let x119 := IntKind.wrap .u32 x118;
    let x120 := IntKind.wrap .i64 (x117 + 1);
    .need ((decide (0 ≤ x120) && decide (x120 < ((List.length a0 : Nat) : Int)))) (
    let x121 := ((List.getD a0 (Int.toNat x120) 0).toNat : Int);
    let x122 := IntKind.wrap .u32 x121;
    .skip (
    let x123 := IntKind.wrap .u32 (x122 * 2 ^ (min (Int.toNat 8) (IntKind.bits .u32)));
    let x124 := IntKind.wrap .u32 (BitVec.ofInt (IntKind.bits .u32) x119 ||| BitVec.ofInt (IntKind.bits .u32) x123).toNat;
    let x125 := IntKind.wrap .i64 (x117 + 2);
    .need ((decide (0 ≤ x125) && decide (x125 < ((List.length a0 : Nat) : Int)))) (
    let x126 := ((List.getD a0 (Int.toNat x125) 0).toNat : Int);
    let x127 := IntKind.wrap .u32 x126;
    .skip (
    let x128 := IntKind.wrap .u32 (x127 * 2 ^ (min (Int.toNat 16) (IntKind.bits .u32)));
    let x129 := IntKind.wrap .u32 (BitVec.ofInt (IntKind.bits .u32) x124 ||| BitVec.ofInt (IntKind.bits .u32) x128).toNat;
    let x130 := IntKind.wrap .i64 (x117 + 3);
    .need ((decide (0 ≤ x130) && decide (x130 < ((List.length a0 : Nat) : Int)))) (
    let x131 := ((List.getD a0 (Int.toNat x130) 0).toNat : Int);
    let x132 := IntKind.wrap .u32 x131;
    .skip (
    let x133 := IntKind.wrap .u32 (x132 * 2 ^ (min (Int.toNat 24) (IntKind.bits .u32)));
    let x134 := IntKind.wrap .u32 (BitVec.ofInt (IntKind.bits .u32) x129 ||| BitVec.ofInt (IntKind.bits .u32) x133).toNat;
    let x135 := canon .f32 (Int.toNat x134);
    .skip (
    let x136 := x115 ++ [x135];
    .skip (
    let x137 := IntKind.wrap .i64 (5 + x8);
    let x138 := IntKind.wrap .i64 (x137 + 24);
    .need ((decide (0 ≤ x138) && decide (x138 < ((List.length a0 : Nat) : Int)))) (
    let x139 := ((List.getD a0 (Int.toNat x138) 0).toNat : Int);
    let x140 := IntKind.wrap .u32 x139;
    let x141 := IntKind.wrap .i64 (x138 + 1);
    .need ((decide (0 ≤ x141) && decide (x141 < ((List.length a0 : Nat) : Int)))) (
    let x142 := ((List.getD a0 (Int.toNat x141) 0).toNat : Int);
    let x143 := IntKind.wrap .u32 x142;
    .skip (
    let x144 := IntKind.wrap .u32 (x143 * 2 ^ (min (Int.toNat 8) (IntKind.bits .u32)));
    let x145 := IntKind.wrap .u32 (BitVec.ofInt (IntKind.bits .u32) x140 ||| BitVec.ofInt (IntKind.bits .u32) x144).toNat;
    let x146 := IntKind.wrap .i64 (x138 + 2);
    .need ((decide (0 ≤ x146) && decide (x146 < ((List.length a0 : Nat) : Int)))) (
    let x147 := ((List.getD a0 (Int.toNat x146) 0).toNat : Int);
    let x148 := IntKind.wrap .u32 x147;
    .skip (
    let x149 := IntKind.wrap .u32 (x148 * 2 ^ (min (Int.toNat 16) (IntKind.bits .u32)));
    let x150 := IntKind.wrap .u32 (BitVec.ofInt (IntKind.bits .u32) x145 ||| BitVec.ofInt (IntKind.bits .u32) x149).toNat;
    let x151 := IntKind.wrap .i64 (x138 + 3);
    .need ((decide (0 ≤ x151) && decide (x151 < ((List.length a0 : Nat) : Int)))) (
    let x152 := ((List.getD a0 (Int.toNat x151) 0).toNat : Int);
    let x153 := IntKind.wrap .u32 x152;
    .skip (
    let x154 := IntKind.wrap .u32 (x153 * 2 ^ (min (Int.toNat 24) (IntKind.bits .u32)));
    let x155 := IntKind.wrap .u32 (BitVec.ofInt (IntKind.bits .u32) x150 ||| BitVec.ofInt (IntKind.bits .u32) x154).toNat;
    let x156 := canon .f32 (Int.toNat x155);
    .skip (
    let x157 := x136 ++ [x156];
    .skip (
    .skip (
    .need ((decide (0 < List.length x157))) (
    let x158 := List.getD x157 0 default;
    .need ((decide (0 ≤ 1) && decide (1 ≤ (((List.length x157) : Nat) : Int)))) (
    .need ((decide (1 + ((List.length x157) - 1) ≤ List.length x157))) (
    let x159 := List.take ((List.length x157) - 1) (List.drop 1 x157);
    .need ((impl_orbitFrom_need x159)) (
    let x160 := impl_orbitFrom x159;
    .need ((impl_ValidEntry_need (⟨x10, x158, ⟨x160.Long, x160.Round, x160.Tilt, x160.Node, x160.Peri, x160.Phase⟩⟩ : Entry))) (
    let x161 := impl_ValidEntry (⟨x10, x158, ⟨x160.Long, x160.Round, x160.Tilt, x160.Node, x160.Peri, x160.Phase⟩⟩ : Entry);
    .ask (!x161)
    (
     .leaf ((⟨[], 0, ⟨0, 0, 0, 0, 0, 0⟩⟩ : Entry), 0, false))
    (
     .need ((impl_storeEntry_need (⟨x10, x158, ⟨x160.Long, x160.Round, x160.Tilt, x160.Node, x160.Peri, x160.Phase⟩⟩ : Entry))) (
     let x162 := impl_storeEntry (⟨x10, x158, ⟨x160.Long, x160.Round, x160.Tilt, x160.Node, x160.Peri, x160.Phase⟩⟩ : Entry);
     let x163 := IntKind.wrap .i64 (35 + x8);
     .need ((decide (0 ≤ x163) && decide (x163 ≤ ((List.length a0 : Nat) : Int)))) (
     let x164 := List.drop 0 (List.take (Int.toNat x163) a0);
     let x165 := (!(x162 == x164));
     .ask x165
     (
      .leaf ((⟨[], 0, ⟨0, 0, 0, 0, 0, 0⟩⟩ : Entry), 0, false))
     (
      let x166 := IntKind.wrap .i64 (35 + x8);
      .leaf ((⟨x10, x158, ⟨x160.Long, x160.Round, x160.Tilt, x160.Node, x160.Peri, x160.Phase⟩⟩ : Entry), x166, true)))))))))))))))))))))))))))))))))))))))))))))))))))))))))))))))))))))))))))))))))
def impl_loadFirst (a0 : (List UInt8)) : Entry × Int × Bool := (impl_loadFirst_tree a0).val
def impl_loadFirst_need (a0 : (List UInt8)) : Bool := (impl_loadFirst_tree a0).ok
def impl_loadFirst_mk (p : Entry × Int × Bool) : Ret := ⟨.tup [.agg [.str p.1.Name, .flt .f32 p.1.Mass, .flt .f32 p.1.Orb.Long, .flt .f32 p.1.Orb.Round, .flt .f32 p.1.Orb.Tilt, .flt .f32 p.1.Orb.Node, .flt .f32 p.1.Orb.Peri, .flt .f32 p.1.Orb.Phase], .int .i64 p.2.1, .bool p.2.2], []⟩
def impl_loadFirst_c : Con := fun args => match args with
  | [.str a0] => some (.need (impl_loadFirst_need a0) (.leaf (impl_loadFirst_mk (impl_loadFirst a0))))
  | _ => none
set_option maxRecDepth 100000 in
theorem impl_loadFirst_ok : FunOK Try.prog 69 impl_loadFirst_c.fn := by
  refine con_ok (Γ := gam [(150, math_Float32frombits_c), (151, impl_orbitFrom_c), (58, impl_ValidEntry_c), (146, impl_storeEntry_c)]) (gam_cons math_Float32frombits_ok (gam_cons impl_orbitFrom_ok (gam_cons impl_ValidEntry_ok (gam_cons impl_storeEntry_ok (gam_nil))))) tab_ok (by kernel_rfl) Try.func69 (by kernel_rfl) (by kernel_rfl) Try.ntmps69 Try.results69 (loopsOK_none rfl _) 100000 fun args t h => ?_
  unfold impl_loadFirst_c at h
  split at h
  · rename_i a0
    cases h
    exact ⟨rfl, agree_need (mk := impl_loadFirst_mk) (t := impl_loadFirst_tree a0) (by unfold Agree; kernel_rfl)⟩
  · cases h

/-- a loop of impl_RecoverEntries -/
def impl_RecoverEntries_loop0_step (p : (List UInt8)) (s : Int × List Entry) : Round (Int × List Entry) (Int × List Entry) :=
  let x0 := ((List.length s.2 : Nat) : Int);
  let x1 := decide (x0 < 16);
  .ask x1
  (
   .need ((decide (0 ≤ s.1) && decide (s.1 ≤ (((List.length p) : Nat) : Int)))) (
   let x2 := List.drop (Int.toNat s.1) (List.take (List.length p) p);
   .need ((impl_loadFirst_need x2)) (
   let x3 := impl_loadFirst x2;
   let x4 := ((List.length s.2 : Nat) : Int);
   .ask (!x3.2.2)
   (
    .leaf (.inr (s.1, s.2), [0]))
   (
    let x5 := decide (x4 > 0);
    .ask x5
    (
     let x6 := IntKind.wrap .i64 (x4 - 1);
     .need ((decide (0 ≤ x6) && decide (x6 < ((List.length s.2 : Nat) : Int)))) (
     .need ((decide ((Int.toNat x6) < List.length s.2))) (
     let x7 := List.getD s.2 (Int.toNat x6) default;
     let x8 := (!Op.bytesLess x7.Name x3.1.Name);
     .ask x8
     (
      .leaf (.inr (s.1, s.2), [0]))
     (
      .need ((decide ((List.length s.2 + List.length [(⟨x3.1.Name, x3.1.Mass, ⟨x3.1.Orb.Long, x3.1.Orb.Round, x3.1.Orb.Tilt, x3.1.Orb.Node, x3.1.Orb.Peri, x3.1.Orb.Phase⟩⟩ : Entry)]) * 48 ≤ 140737488355328) && decide (List.length s.2 + List.length [(⟨x3.1.Name, x3.1.Mass, ⟨x3.1.Orb.Long, x3.1.Orb.Round, x3.1.Orb.Tilt, x3.1.Orb.Node, x3.1.Orb.Peri, x3.1.Orb.Phase⟩⟩ : Entry)] ≤ 9223372036854775807))) (
      let x9 := s.2 ++ [(⟨x3.1.Name, x3.1.Mass, ⟨x3.1.Orb.Long, x3.1.Orb.Round, x3.1.Orb.Tilt, x3.1.Orb.Node, x3.1.Orb.Peri, x3.1.Orb.Phase⟩⟩ : Entry)];
      let x10 := IntKind.wrap .i64 (s.1 + x3.2.1);
      .leaf (.inl (x10, x9), [305]))))))
    (
     .need ((decide ((List.length s.2 + List.length [(⟨x3.1.Name, x3.1.Mass, ⟨x3.1.Orb.Long, x3.1.Orb.Round, x3.1.Orb.Tilt, x3.1.Orb.Node, x3.1.Orb.Peri, x3.1.Orb.Phase⟩⟩ : Entry)]) * 48 ≤ 140737488355328) && decide (List.length s.2 + List.length [(⟨x3.1.Name, x3.1.Mass, ⟨x3.1.Orb.Long, x3.1.Orb.Round, x3.1.Orb.Tilt, x3.1.Orb.Node, x3.1.Orb.Peri, x3.1.Orb.Phase⟩⟩ : Entry)] ≤ 9223372036854775807))) (
     let x6 := s.2 ++ [(⟨x3.1.Name, x3.1.Mass, ⟨x3.1.Orb.Long, x3.1.Orb.Round, x3.1.Orb.Tilt, x3.1.Orb.Node, x3.1.Orb.Peri, x3.1.Orb.Phase⟩⟩ : Entry)];
     let x7 := IntKind.wrap .i64 (s.1 + x3.2.1);
     .leaf (.inl (x7, x6), [305])))))))
  (
   .leaf (.inr (s.1, s.2), [0]))
def impl_RecoverEntries_loop0_L (p : (List UInt8)) : LoopS (Int × List Entry) (Int × List Entry) := { tl := fun s => [.str p, .junk, .junk, .junk, .junk, .own 0, .int .i64 s.1], hl := fun s => [some (.typed 85 .entry s.2)], ex := fun r => .exit 0, otl := fun r => [.junk, .junk, .junk, .junk, .junk, .own 0, .int .i64 r.1], ohl := fun r => [some (.typed 85 .entry r.2)] }
def impl_RecoverEntries_loop0_ext : St → Option (((List UInt8)) × (Int × List Entry) × List Nat) := fun S => match (S.tm 0).unK, (S.tm 5).unK, (S.tm 6).unK with
  | .str q0, .own i0, .int .i64 q1 => (match S.hp i0 with
    | some (.typed 85 .entry q2) => some (q0, (q1, q2), [i0])
    | _ => none)
  | _, _, _ => none
def impl_RecoverEntries_loop0_post (p : (List UInt8)) (r : Int × List Entry) : DT (Ex × St) := .leaf (.exit 0, LSt [.junk, .junk, .junk, .junk, .junk, .own 0, .int .i64 r.1] [some (.typed 85 .entry r.2)])
def impl_RecoverEntries_loop0 (p : (List UInt8)) (s : Int × List Entry) : Int × List Entry := loopVal (impl_RecoverEntries_loop0_step p) s
def impl_RecoverEntries_loop0_ends (p : (List UInt8)) (s : Int × List Entry) : Bool := loopEnds (impl_RecoverEntries_loop0_step p) s
def impl_RecoverEntries_loop0_F : LoopF := loopF impl_RecoverEntries_loop0_step impl_RecoverEntries_loop0_ext impl_RecoverEntries_loop0_post
theorem impl_RecoverEntries_loop0_hext : ∀ S p s fl, impl_RecoverEntries_loop0_ext S = some (p, s, fl) → Norm S fl ((impl_RecoverEntries_loop0_L p).tl s) ((impl_RecoverEntries_loop0_L p).hl s) (impl_RecoverEntries_loop0_L p).gl := by
  intro S p s fl h
  unfold impl_RecoverEntries_loop0_ext at h
  (repeat' split at h) <;> first
    | (cases h; constructor <;> simp_all [impl_RecoverEntries_loop0_L, keepT, keepH, rens, renH, PV.ren, Blk.ren, fOf, lget, nodup, natIn, lenEq, gtm, PV.unK])
    | cases h
theorem impl_RecoverEntries_loop0_hpost : ∀ p r e S', (impl_RecoverEntries_loop0_post p r).get = some (e, S') → e = (impl_RecoverEntries_loop0_L p).ex r ∧ S' = LSt ((impl_RecoverEntries_loop0_L p).otl r) ((impl_RecoverEntries_loop0_L p).ohl r) ((impl_RecoverEntries_loop0_L p).ogl r) := by
  intro p r e S' h
  unfold impl_RecoverEntries_loop0_post at h
  simp only [DT.get, Option.some.injEq, Prod.mk.injEq] at h; exact ⟨h.1.symm, h.2.symm⟩

def impl_RecoverEntries_loops : Nat → Option LoopF := loopTab [(2, impl_RecoverEntries_loop0_F)]
set_option maxRecDepth 100000 in
theorem impl_RecoverEntries_l0 : LoopOK Try.prog ⟨gam [(69, impl_loadFirst_c)], tab, 51, impl_RecoverEntries_loops⟩ (lp Try.f16 0) :=
  loopOK_some (F := impl_RecoverEntries_loop0_F) (by kernel_rfl) (loopF_ok (E := ⟨gam [(69, impl_loadFirst_c)], tab, 51, impl_RecoverEntries_loops⟩) ⟨gam_cons impl_loadFirst_ok (gam_nil), tab_ok, by kernel_rfl⟩ (fuel := 100000) (loopsOK_list (l := []) (by kernel_rfl) trivial) (L := impl_RecoverEntries_loop0_L) (fun p s => by unfold AgreeL; exact ⟨by kernel_rfl, by kernel_rfl⟩) (fun _ _ h => Ex.noConfusion h) impl_RecoverEntries_loop0_hext impl_RecoverEntries_loop0_hpost)
/-- loop.example/g01284/impl.RecoverEntries -/
def impl_RecoverEntries_tree (a0 : (List UInt8)) : DT (List Entry × Int × Bool) :=
  .need ((impl_RecoverEntries_loop0_ends a0 (0, []))) (
  let x0 := impl_RecoverEntries_loop0 a0 (0, []);
  .leaf (x0.2, x0.1, true))
def impl_RecoverEntries (a0 : (List UInt8)) : List Entry × Int × Bool := (impl_RecoverEntries_tree a0).val
def impl_RecoverEntries_need (a0 : (List UInt8)) : Bool := (impl_RecoverEntries_tree a0).ok
def impl_RecoverEntries_mk (p : List Entry × Int × Bool) : Ret := ⟨.tup [.own 0, .int .i64 p.2.1, .bool p.2.2], [.typed 85 .entry p.1]⟩
def impl_RecoverEntries_c : Con := fun args => match args with
  | [.str a0] => some (.need (impl_RecoverEntries_need a0) (.leaf (impl_RecoverEntries_mk (impl_RecoverEntries a0))))
  | _ => none
set_option maxRecDepth 100000 in
theorem impl_RecoverEntries_ok : FunOK Try.prog 16 impl_RecoverEntries_c.fn := by
  refine con_ok (Γ := gam [(69, impl_loadFirst_c)]) (gam_cons impl_loadFirst_ok (gam_nil)) tab_ok (by kernel_rfl) Try.func16 (by kernel_rfl) (by kernel_rfl) Try.ntmps16 Try.results16 (loops := impl_RecoverEntries_loops) (loopsOK_list (l := [lp Try.f16 0]) (by kernel_rfl) ⟨impl_RecoverEntries_l0, trivial⟩) 100000 fun args t h => ?_
  unfold impl_RecoverEntries_c at h
  split at h
  · rename_i a0
    cases h
    exact ⟨rfl, agree_need (mk := impl_RecoverEntries_mk) (t := impl_RecoverEntries_tree a0) (by unfold Agree; kernel_rfl)⟩
  · cases h

/-- loop.example/g01284/laws.sameFloat -/
def laws_sameFloat_tree (a0 : Nat) (a1 : Nat) : DT (Bool) :=
  let x0 := fne .f64 a0 a0;
  .ask x0
  (
   let x1 := fne .f64 a0 a0;
   .ask x1
   (
    let x2 := fne .f64 a1 a1;
    .leaf x2)
   (
    .leaf false))
  (
   let x1 := fne .f64 a1 a1;
   .ask x1
   (
    let x2 := fne .f64 a0 a0;
    .ask x2
    (
     let x3 := fne .f64 a1 a1;
     .leaf x3)
    (
     .leaf false))
   (
    let x2 := feq .f64 a0 0;
    .ask x2
    (
     let x3 := feq .f64 a1 0;
     .ask x3
     (
      let x4 := fdiv .f64 4607182418800017408 a0;
      let x5 := fgt .f64 x4 0;
      let x6 := fdiv .f64 4607182418800017408 a1;
      let x7 := fgt .f64 x6 0;
      let x8 := (x5 == x7);
      .leaf x8)
     (
      let x4 := feq .f64 a0 a1;
      .leaf x4))
    (
     let x3 := feq .f64 a0 a1;
     .leaf x3)))
def laws_sameFloat (a0 : Nat) (a1 : Nat) : Bool := (laws_sameFloat_tree a0 a1).val
def laws_sameFloat_mk (p : Bool) : Ret := ⟨.bool p, []⟩
def laws_sameFloat_c : Con := fun args => match args with
  | [.flt .f64 a0, .flt .f64 a1] => some (.leaf (laws_sameFloat_mk (laws_sameFloat a0 a1)))
  | _ => none
set_option maxRecDepth 100000 in
theorem laws_sameFloat_ok : FunOK Try.prog 23 laws_sameFloat_c.fn := by
  refine con_ok (Γ := gam []) (gam_nil) tab_ok (by kernel_rfl) Try.func23 (by kernel_rfl) (by kernel_rfl) Try.ntmps23 Try.results23 (loopsOK_none rfl _) 100000 fun args t h => ?_
  unfold laws_sameFloat_c at h
  split at h
  · rename_i a0 a1
    cases h
    exact ⟨rfl, agree_tot (mk := laws_sameFloat_mk) (t := laws_sameFloat_tree a0 a1) (by unfold Agree; kernel_rfl) (by kernel_rfl)⟩
  · cases h

/-- loop.example/g01284/laws.eqOrbit -/
def laws_eqOrbit_tree (a0 : Orbit) (a1 : Orbit) : DT (Bool) :=
  .need ((fconvOk .f32 a0.Long .f64)) (
  let x0 := fconv .f32 a0.Long .f64;
  .need ((fconvOk .f32 a1.Long .f64)) (
  let x1 := fconv .f32 a1.Long .f64;
  let x2 := laws_sameFloat x0 x1;
  .ask (!x2)
  (
   .leaf false)
  (
   .need ((fconvOk .f32 a0.Round .f64)) (
   let x3 := fconv .f32 a0.Round .f64;
   .need ((fconvOk .f32 a1.Round .f64)) (
   let x4 := fconv .f32 a1.Round .f64;
   let x5 := laws_sameFloat x3 x4;
   .ask (!x5)
   (
    .leaf false)
   (
    .need ((fconvOk .f32 a0.Tilt .f64)) (
    let x6 := fconv .f32 a0.Tilt .f64;
    .need ((fconvOk .f32 a1.Tilt .f64)) (
    let x7 := fconv .f32 a1.Tilt .f64;
    let x8 := laws_sameFloat x6 x7;
    .ask (!x8)
    (
     .leaf false)
    (
     .need ((fconvOk .f32 a0.Node .f64)) (
     let x9 := fconv .f32 a0.Node .f64;
     .need ((fconvOk .f32 a1.Node .f64)) (
     let x10 := fconv .f32 a1.Node .f64;
     let x11 := laws_sameFloat x9 x10;
     .ask (!x11)
     (
      .leaf false)
     (
      .need ((fconvOk .f32 a0.Peri .f64)) (
      let x12 := fconv .f32 a0.Peri .f64;
      .need ((fconvOk .f32 a1.Peri .f64)) (
      let x13 := fconv .f32 a1.Peri .f64;
      let x14 := laws_sameFloat x12 x13;
      .ask (!x14)
      (
       .leaf false)
      (
       .need ((fconvOk .f32 a0.Phase .f64)) (
       let x15 := fconv .f32 a0.Phase .f64;
       .need ((fconvOk .f32 a1.Phase .f64)) (
       let x16 := fconv .f32 a1.Phase .f64;
       let x17 := laws_sameFloat x15 x16;
       .ask (!x17)
       (
        .leaf false)
       (
        .leaf true))))))))))))))))))
def laws_eqOrbit (a0 : Orbit) (a1 : Orbit) : Bool := (laws_eqOrbit_tree a0 a1).val
def laws_eqOrbit_need (a0 : Orbit) (a1 : Orbit) : Bool := (laws_eqOrbit_tree a0 a1).ok
def laws_eqOrbit_mk (p : Bool) : Ret := ⟨.bool p, []⟩
def laws_eqOrbit_c : Con := fun args => match args with
  | [.agg [.flt .f32 a0_0, .flt .f32 a0_1, .flt .f32 a0_2, .flt .f32 a0_3, .flt .f32 a0_4, .flt .f32 a0_5], .agg [.flt .f32 a1_0, .flt .f32 a1_1, .flt .f32 a1_2, .flt .f32 a1_3, .flt .f32 a1_4, .flt .f32 a1_5]] => some (.need (laws_eqOrbit_need (⟨a0_0, a0_1, a0_2, a0_3, a0_4, a0_5⟩ : Orbit) (⟨a1_0, a1_1, a1_2, a1_3, a1_4, a1_5⟩ : Orbit)) (.leaf (laws_eqOrbit_mk (laws_eqOrbit (⟨a0_0, a0_1, a0_2, a0_3, a0_4, a0_5⟩ : Orbit) (⟨a1_0, a1_1, a1_2, a1_3, a1_4, a1_5⟩ : Orbit)))))
  | _ => none
set_option maxRecDepth 100000 in
theorem laws_eqOrbit_ok : FunOK Try.prog 152 laws_eqOrbit_c.fn := by
  refine con_ok (Γ := gam [(23, laws_sameFloat_c)]) (gam_cons laws_sameFloat_ok (gam_nil)) tab_ok (by kernel_rfl) Try.func152 (by kernel_rfl) (by kernel_rfl) Try.ntmps152 Try.results152 (loopsOK_none rfl _) 100000 fun args t h => ?_
  unfold laws_eqOrbit_c at h
  split at h
  · rename_i a0_0 a0_1 a0_2 a0_3 a0_4 a0_5 a1_0 a1_1 a1_2 a1_3 a1_4 a1_5
    cases h
    exact ⟨rfl, agree_need (mk := laws_eqOrbit_mk) (t := laws_eqOrbit_tree (⟨a0_0, a0_1, a0_2, a0_3, a0_4, a0_5⟩ : Orbit) (⟨a1_0, a1_1, a1_2, a1_3, a1_4, a1_5⟩ : Orbit)) (by unfold Agree; kernel_rfl)⟩
  · cases h

/-- loop.example/g01284/laws.eqEntry -/
def laws_eqEntry_tree (a0 : Entry) (a1 : Entry) : DT (Bool) :=
  let x0 := (!(a0.Name == a1.Name));
  .ask x0
  (
   .leaf false)
  (
   .need ((fconvOk .f32 a0.Mass .f64)) (
   let x1 := fconv .f32 a0.Mass .f64;
   .need ((fconvOk .f32 a1.Mass .f64)) (
   let x2 := fconv .f32 a1.Mass .f64;
   let x3 := laws_sameFloat x1 x2;
   .ask (!x3)
   (
    .leaf false)
   (
    .need ((laws_eqOrbit_need (⟨a0.Orb.Long, a0.Orb.Round, a0.Orb.Tilt, a0.Orb.Node, a0.Orb.Peri, a0.Orb.Phase⟩ : Orbit) (⟨a1.Orb.Long, a1.Orb.Round, a1.Orb.Tilt, a1.Orb.Node, a1.Orb.Peri, a1.Orb.Phase⟩ : Orbit))) (
    let x4 := laws_eqOrbit (⟨a0.Orb.Long, a0.Orb.Round, a0.Orb.Tilt, a0.Orb.Node, a0.Orb.Peri, a0.Orb.Phase⟩ : Orbit) (⟨a1.Orb.Long, a1.Orb.Round, a1.Orb.Tilt, a1.Orb.Node, a1.Orb.Peri, a1.Orb.Phase⟩ : Orbit);
    .ask (!x4)
    (
     .leaf false)
    (
     .leaf true))))))
def laws_eqEntry (a0 : Entry) (a1 : Entry) : Bool := (laws_eqEntry_tree a0 a1).val
def laws_eqEntry_need (a0 : Entry) (a1 : Entry) : Bool := (laws_eqEntry_tree a0 a1).ok
def laws_eqEntry_mk (p : Bool) : Ret := ⟨.bool p, []⟩
def laws_eqEntry_c : Con := fun args => match args with
  | [.agg [.str a0_0, .flt .f32 a0_1, .flt .f32 a0_2, .flt .f32 a0_3, .flt .f32 a0_4, .flt .f32 a0_5, .flt .f32 a0_6, .flt .f32 a0_7], .agg [.str a1_0, .flt .f32 a1_1, .flt .f32 a1_2, .flt .f32 a1_3, .flt .f32 a1_4, .flt .f32 a1_5, .flt .f32 a1_6, .flt .f32 a1_7]] => some (.need (laws_eqEntry_need (⟨a0_0, a0_1, ⟨a0_2, a0_3, a0_4, a0_5, a0_6, a0_7⟩⟩ : Entry) (⟨a1_0, a1_1, ⟨a1_2, a1_3, a1_4, a1_5, a1_6, a1_7⟩⟩ : Entry)) (.leaf (laws_eqEntry_mk (laws_eqEntry (⟨a0_0, a0_1, ⟨a0_2, a0_3, a0_4, a0_5, a0_6, a0_7⟩⟩ : Entry) (⟨a1_0, a1_1, ⟨a1_2, a1_3, a1_4, a1_5, a1_6, a1_7⟩⟩ : Entry)))))
  | _ => none
set_option maxRecDepth 100000 in
theorem laws_eqEntry_ok : FunOK Try.prog 70 laws_eqEntry_c.fn := by
  refine con_ok (Γ := gam [(23, laws_sameFloat_c), (152, laws_eqOrbit_c)]) (gam_cons laws_sameFloat_ok (gam_cons laws_eqOrbit_ok (gam_nil))) tab_ok (by kernel_rfl) Try.func70 (by kernel_rfl) (by kernel_rfl) Try.ntmps70 Try.results70 (loopsOK_none rfl _) 100000 fun args t h => ?_
  unfold laws_eqEntry_c at h
  split at h
  · rename_i a0_0 a0_1 a0_2 a0_3 a0_4 a0_5 a0_6 a0_7 a1_0 a1_1 a1_2 a1_3 a1_4 a1_5 a1_6 a1_7
    cases h
    exact ⟨rfl, agree_need (mk := laws_eqEntry_mk) (t := laws_eqEntry_tree (⟨a0_0, a0_1, ⟨a0_2, a0_3, a0_4, a0_5, a0_6, a0_7⟩⟩ : Entry) (⟨a1_0, a1_1, ⟨a1_2, a1_3, a1_4, a1_5, a1_6, a1_7⟩⟩ : Entry)) (by unfold Agree; kernel_rfl)⟩
  · cases h

/-- a loop of laws_eqEntryS -/
def laws_eqEntryS_loop0_step (p : List Entry × List Entry) (s : Int) : Round (Int) ((Unit) ⊕ (Unit)) :=
  let x0 := ((List.length p.1 : Nat) : Int);
  let x1 := decide (s < x0);
  .ask x1
  (
   .need ((decide (0 ≤ s) && decide (s < ((List.length p.1 : Nat) : Int)))) (
   let x2 := List.getD p.1 (Int.toNat s) default;
   .need ((decide (0 ≤ s) && decide (s < ((List.length p.2 : Nat) : Int)))) (
   let x3 := List.getD p.2 (Int.toNat s) default;
   .need ((laws_eqEntry_need (⟨x2.Name, x2.Mass, ⟨x2.Orb.Long, x2.Orb.Round, x2.Orb.Tilt, x2.Orb.Node, x2.Orb.Peri, x2.Orb.Phase⟩⟩ : Entry) (⟨x3.Name, x3.Mass, ⟨x3.Orb.Long, x3.Orb.Round, x3.Orb.Tilt, x3.Orb.Node, x3.Orb.Peri, x3.Orb.Phase⟩⟩ : Entry))) (
   let x4 := laws_eqEntry (⟨x2.Name, x2.Mass, ⟨x2.Orb.Long, x2.Orb.Round, x2.Orb.Tilt, x2.Orb.Node, x2.Orb.Peri, x2.Orb.Phase⟩⟩ : Entry) (⟨x3.Name, x3.Mass, ⟨x3.Orb.Long, x3.Orb.Round, x3.Orb.Tilt, x3.Orb.Node, x3.Orb.Peri, x3.Orb.Phase⟩⟩ : Entry);
   .ask (!x4)
   (
    .leaf (.inr (.inl ()), []))
   (
    let x5 := IntKind.wrap .i64 (s + 1);
    .leaf (.inl x5, []))))))
  (
   .leaf (.inr (.inr ()), []))
def laws_eqEntryS_loop0_L (p : List Entry × List Entry) : LoopS (Int) ((Unit) ⊕ (Unit)) := { tl := fun s => [.vslc 1 .entry p.1, .vslc 2 .entry p.2, .junk, .junk, .junk, .int .i64 s], hl := fun s => [], ex := fun r => match r with | .inl r => .ret | .inr r => .exit 0, otl := fun r => match r with | .inl r => [.junk, .junk, .junk, .junk, .bool false] | .inr r => [.junk], ohl := fun r => match r with | .inl r => [] | .inr r => [] }
def laws_eqEntryS_loop0_ext : St → Option ((List Entry × List Entry) × (Int) × List Nat) := fun S => match (S.tm 0).unK, (S.tm 1).unK, (S.tm 5).unK with
  | .vslc 1 .entry q0, .vslc 2 .entry q1, .int .i64 q2 => some ((q0, q1), q2, [])
  | _, _, _ => none
def laws_eqEntryS_loop0_post (p : List Entry × List Entry) (r : (Unit) ⊕ (Unit)) : DT (Ex × St) := .ask (isL r) (.leaf (.ret, LSt [.junk, .junk, .junk, .junk, .bool false] [])) (.leaf (.exit 0, LSt [.junk] []))
def laws_eqEntryS_loop0 (p : List Entry × List Entry) (s : Int) : (Unit) ⊕ (Unit) := loopVal (laws_eqEntryS_loop0_step p) s
def laws_eqEntryS_loop0_ends (p : List Entry × List Entry) (s : Int) : Bool := loopEnds (laws_eqEntryS_loop0_step p) s
def laws_eqEntryS_loop0_F : LoopF := loopF laws_eqEntryS_loop0_step laws_eqEntryS_loop0_ext laws_eqEntryS_loop0_post
theorem laws_eqEntryS_loop0_hext : ∀ S p s fl, laws_eqEntryS_loop0_ext S = some (p, s, fl) → Norm S fl ((laws_eqEntryS_loop0_L p).tl s) ((laws_eqEntryS_loop0_L p).hl s) (laws_eqEntryS_loop0_L p).gl := by
  intro S p s fl h
  unfold laws_eqEntryS_loop0_ext at h
  (repeat' split at h) <;> first
    | (cases h; constructor <;> simp_all [laws_eqEntryS_loop0_L, keepT, keepH, rens, renH, PV.ren, Blk.ren, fOf, lget, nodup, natIn, lenEq, gtm, PV.unK])
    | cases h
theorem laws_eqEntryS_loop0_hpost : ∀ p r e S', (laws_eqEntryS_loop0_post p r).get = some (e, S') → e = (laws_eqEntryS_loop0_L p).ex r ∧ S' = LSt ((laws_eqEntryS_loop0_L p).otl r) ((laws_eqEntryS_loop0_L p).ohl r) ((laws_eqEntryS_loop0_L p).ogl r) := by
  intro p r e S' h
  unfold laws_eqEntryS_loop0_post at h
  cases r <;> (simp only [isL, DT.get, Option.some.injEq, Prod.mk.injEq] at h; exact ⟨h.1.symm, h.2.symm⟩)

def laws_eqEntryS_loops : Nat → Option LoopF := loopTab [(4, laws_eqEntryS_loop0_F)]
set_option maxRecDepth 100000 in
theorem laws_eqEntryS_l0 : LoopOK Try.prog ⟨gam [(70, laws_eqEntry_c)], tab, 27, laws_eqEntryS_loops⟩ (lp Try.f17 0) :=
  loopOK_some (F := laws_eqEntryS_loop0_F) (by kernel_rfl) (loopF_ok (E := ⟨gam [(70, laws_eqEntry_c)], tab, 27, laws_eqEntryS_loops⟩) ⟨gam_cons laws_eqEntry_ok (gam_nil), tab_ok, by kernel_rfl⟩ (fuel := 100000) (loopsOK_list (l := []) (by kernel_rfl) trivial) (L := laws_eqEntryS_loop0_L) (fun p s => by unfold AgreeL; exact ⟨by kernel_rfl, by kernel_rfl⟩) (fun _ r h => by cases r <;> exact Ex.noConfusion h) laws_eqEntryS_loop0_hext laws_eqEntryS_loop0_hpost)
/-- loop.example/g01284/laws.eqEntryS -/
def laws_eqEntryS_tree (a0 : List Entry) (a1 : List Entry) : DT (Bool) :=
  let x0 := ((List.length a0 : Nat) : Int);
  let x1 := ((List.length a1 : Nat) : Int);
  let x2 := (x0 != x1);
  .ask x2
  (
   .leaf false)
  (
   .need ((laws_eqEntryS_loop0_ends (a0, a1) 0)) (
   let x3 := laws_eqEntryS_loop0 (a0, a1) 0;
   .ask ((isL x3))
   (
    .leaf false)
   (
    .leaf true)))
def laws_eqEntryS (a0 : List Entry) (a1 : List Entry) : Bool := (laws_eqEntryS_tree a0 a1).val
def laws_eqEntryS_need (a0 : List Entry) (a1 : List Entry) : Bool := (laws_eqEntryS_tree a0 a1).ok
def laws_eqEntryS_mk (p : Bool) : Ret := ⟨.bool p, []⟩
def laws_eqEntryS_c0 : Con := fun args => match args with
  | [.vslc 1 .entry a0, .vslc 2 .entry a1] => some (.need (laws_eqEntryS_need a0 a1) (.leaf (laws_eqEntryS_mk (laws_eqEntryS a0 a1))))
  | _ => none
set_option maxRecDepth 100000 in
theorem laws_eqEntryS_ok0 : FunOK Try.prog 17 laws_eqEntryS_c0.fn := by
  refine con_ok (Γ := gam [(70, laws_eqEntry_c)]) (gam_cons laws_eqEntry_ok (gam_nil)) tab_ok (by kernel_rfl) Try.func17 (by kernel_rfl) (by kernel_rfl) Try.ntmps17 Try.results17 (loops := laws_eqEntryS_loops) (loopsOK_list (l := [lp Try.f17 0]) (by kernel_rfl) ⟨laws_eqEntryS_l0, trivial⟩) 100000 fun args t h => ?_
  unfold laws_eqEntryS_c0 at h
  split at h
  · rename_i a0 a1
    cases h
    exact ⟨rfl, agree_need (mk := laws_eqEntryS_mk) (t := laws_eqEntryS_tree a0 a1) (by unfold Agree; kernel_rfl)⟩
  · cases h
def laws_eqEntryS_c : Con := fun args => laws_eqEntryS_c0 (norms 0 [.slc .entry, .slc .entry] args)
set_option maxRecDepth 100000 in
theorem laws_eqEntryS_ok : FunOK Try.prog 17 laws_eqEntryS_c.fn := con_norm [.slc .entry, .slc .entry] laws_eqEntryS_ok0

/-- a loop of laws_markText -/
def laws_markText_loop0_step (p : Unit) (s : Int × (List UInt8)) : Round (Int × (List UInt8)) ((List UInt8)) :=
  let x0 := decide (s.1 > 0);
  .ask x0
  (
   .skip (
   let x1 := Int.tmod s.1 10;
   let x2 := IntKind.wrap .i64 (48 + x1);
   let x3 := IntKind.wrap .u8 x2;
   let x4 := strOf [x3];
   .need ((decide (List.length x4 + List.length s.2 ≤ 9223372036854775807))) (
   let x5 := x4 ++ s.2;
   .skip (
   let x6 := IntKind.wrap .i64 (Int.tdiv s.1 10);
   .leaf (.inl (x6, x5), [])))))
  (
   .leaf (.inr s.2, []))
def laws_markText_loop0_L (p : Unit) : LoopS (Int × (List UInt8)) ((List UInt8)) := { tl := fun s => [.int .i64 s.1, .junk, .junk, .str s.2], hl := fun s => [], ex := fun r => .exit 0, otl := fun r => [.junk, .junk, .junk, .str r], ohl := fun r => [] }
def laws_markText_loop0_ext : St → Option ((Unit) × (Int × (List UInt8)) × List Nat) := fun S => match (S.tm 0).unK, (S.tm 3).unK with
  | .int .i64 q0, .str q1 => some ((), (q0, q1), [])
  | _, _ => none
def laws_markText_loop0_post (p : Unit) (r : (List UInt8)) : DT (Ex × St) := .leaf (.exit 0, LSt [.junk, .junk, .junk, .str r] [])
def laws_markText_loop0 (p : Unit) (s : Int × (List UInt8)) : (List UInt8) := loopVal (laws_markText_loop0_step p) s
def laws_markText_loop0_ends (p : Unit) (s : Int × (List UInt8)) : Bool := loopEnds (laws_markText_loop0_step p) s
def laws_markText_loop0_F : LoopF := loopF laws_markText_loop0_step laws_markText_loop0_ext laws_markText_loop0_post
theorem laws_markText_loop0_hext : ∀ S p s fl, laws_markText_loop0_ext S = some (p, s, fl) → Norm S fl ((laws_markText_loop0_L p).tl s) ((laws_markText_loop0_L p).hl s) (laws_markText_loop0_L p).gl := by
  intro S p s fl h
  unfold laws_markText_loop0_ext at h
  (repeat' split at h) <;> first
    | (cases h; constructor <;> simp_all [laws_markText_loop0_L, keepT, keepH, rens, renH, PV.ren, Blk.ren, fOf, lget, nodup, natIn, lenEq, gtm, PV.unK])
    | cases h
theorem laws_markText_loop0_hpost : ∀ p r e S', (laws_markText_loop0_post p r).get = some (e, S') → e = (laws_markText_loop0_L p).ex r ∧ S' = LSt ((laws_markText_loop0_L p).otl r) ((laws_markText_loop0_L p).ohl r) ((laws_markText_loop0_L p).ogl r) := by
  intro p r e S' h
  unfold laws_markText_loop0_post at h
  simp only [DT.get, Option.some.injEq, Prod.mk.injEq] at h; exact ⟨h.1.symm, h.2.symm⟩

def laws_markText_loops : Nat → Option LoopF := loopTab [(4, laws_markText_loop0_F)]
set_option maxRecDepth 100000 in
theorem laws_markText_l0 : LoopOK Try.prog ⟨gam [], tab, 20, laws_markText_loops⟩ (lp Try.f71 0) :=
  loopOK_some (F := laws_markText_loop0_F) (by kernel_rfl) (loopF_ok (E := ⟨gam [], tab, 20, laws_markText_loops⟩) ⟨gam_nil, tab_ok, by kernel_rfl⟩ (fuel := 100000) (loopsOK_list (l := []) (by kernel_rfl) trivial) (L := laws_markText_loop0_L) (fun p s => by unfold AgreeL; exact ⟨by kernel_rfl, by kernel_rfl⟩) (fun _ _ h => Ex.noConfusion h) laws_markText_loop0_hext laws_markText_loop0_hpost)
/-- loop.example/g01284/laws.markText -/
def laws_markText_tree (a0 : Int) : DT ((List UInt8)) :=
  let x0 := decide (a0 ≤ 0);
  .ask x0
  (
   .leaf ([109, 48]))
  (
   .need ((laws_markText_loop0_ends () (a0, []))) (
   let x1 := laws_markText_loop0 () (a0, []);
   .need ((decide (List.length [109] + List.length x1 ≤ 9223372036854775807))) (
   let x2 := [109] ++ x1;
   .leaf x2)))
def laws_markText (a0 : Int) : (List UInt8) := (laws_markText_tree a0).val
def laws_markText_need (a0 : Int) : Bool := (laws_markText_tree a0).ok
def laws_markText_mk (p : (List UInt8)) : Ret := ⟨.str p, []⟩
def laws_markText_c : Con := fun args => match args with
  | [.int .i64 a0] => some (.need (laws_markText_need a0) (.leaf (laws_markText_mk (laws_markText a0))))
  | _ => none
set_option maxRecDepth 100000 in
theorem laws_markText_ok : FunOK Try.prog 71 laws_markText_c.fn := by
  refine con_ok (Γ := gam []) (gam_nil) tab_ok (by kernel_rfl) Try.func71 (by kernel_rfl) (by kernel_rfl) Try.ntmps71 Try.results71 (loops := laws_markText_loops) (loopsOK_list (l := [lp Try.f71 0]) (by kernel_rfl) ⟨laws_markText_l0, trivial⟩) 100000 fun args t h => ?_
  unfold laws_markText_c at h
  split at h
  · rename_i a0
    cases h
    exact ⟨rfl, agree_need (mk := laws_markText_mk) (t := laws_markText_tree a0) (by unfold Agree; kernel_rfl)⟩
  · cases h

/-- a loop of laws_markEntryS -/
def laws_markEntryS_loop0_step (p : Unit) (s : Int × Int × List Entry) : Round (Int × Int × List Entry) (Int × List Entry) :=
  let x0 := ((List.length s.2.2 : Nat) : Int);
  let x1 := decide (s.2.1 < x0);
  .ask x1
  (
   .need ((laws_markText_need s.1)) (
   let x2 := laws_markText s.1;
   .need ((decide (0 ≤ s.2.1) && decide (s.2.1 < ((List.length s.2.2 : Nat) : Int)))) (
   .need ((decide ((Int.toNat s.2.1) < List.length s.2.2))) (
   let x3 := List.set s.2.2 (Int.toNat s.2.1) (⟨x2, (List.getD s.2.2 (Int.toNat s.2.1) default).Mass, ⟨(List.getD s.2.2 (Int.toNat s.2.1) default).Orb.Long, (List.getD s.2.2 (Int.toNat s.2.1) default).Orb.Round, (List.getD s.2.2 (Int.toNat s.2.1) default).Orb.Tilt, (List.getD s.2.2 (Int.toNat s.2.1) default).Orb.Node, (List.getD s.2.2 (Int.toNat s.2.1) default).Orb.Peri, (List.getD s.2.2 (Int.toNat s.2.1) default).Orb.Phase⟩⟩ : Entry);
   let x4 := IntKind.wrap .i64 (s.1 + 1);
   let x5 := fofInt .f32 x4;
   .need ((decide (0 ≤ s.2.1) && decide (s.2.1 < ((List.length x3 : Nat) : Int)))) (
   .need ((decide ((Int.toNat s.2.1) < List.length x3))) (
   let x6 := List.set x3 (Int.toNat s.2.1) (⟨(List.getD x3 (Int.toNat s.2.1) default).Name, x5, ⟨(List.getD x3 (Int.toNat s.2.1) default).Orb.Long, (List.getD x3 (Int.toNat s.2.1) default).Orb.Round, (List.getD x3 (Int.toNat s.2.1) default).Orb.Tilt, (List.getD x3 (Int.toNat s.2.1) default).Orb.Node, (List.getD x3 (Int.toNat s.2.1) default).Orb.Peri, (List.getD x3 (Int.toNat s.2.1) default).Orb.Phase⟩⟩ : Entry);
   let x7 := IntKind.wrap .i64 (x4 + 1);
   let x8 := fofInt .f32 x7;
   .need ((decide (0 ≤ s.2.1) && decide (s.2.1 < ((List.length x6 : Nat) : Int)))) (
   .need ((decide ((Int.toNat s.2.1) < List.length x6))) (
   let x9 := List.set x6 (Int.toNat s.2.1) (⟨(List.getD x6 (Int.toNat s.2.1) default).Name, (List.getD x6 (Int.toNat s.2.1) default).Mass, ⟨x8, (List.getD x6 (Int.toNat s.2.1) default).Orb.Round, (List.getD x6 (Int.toNat s.2.1) default).Orb.Tilt, (List.getD x6 (Int.toNat s.2.1) default).Orb.Node, (List.getD x6 (Int.toNat s.2.1) default).Orb.Peri, (List.getD x6 (Int.toNat s.2.1) default).Orb.Phase⟩⟩ : Entry);
   let x10 := IntKind.wrap .i64 (x7 + 1);
   let x11 := fofInt .f32 x10;
   .need ((decide (0 ≤ s.2.1) && decide (s.2.1 < ((List.length x9 : Nat) : Int)))) (
   .need ((decide ((Int.toNat s.2.1) < List.length x9))) (
   let x12 := List.set x9 (Int.toNat s.2.1) (⟨(List.getD x9 (Int.toNat s.2.1) default).Name, (List.getD x9 (Int.toNat s.2.1) default).Mass, ⟨(List.getD x9 (Int.toNat s.2.1) default).Orb.Long, x11, (List.getD x9 (Int.toNat s.2.1) default).Orb.Tilt, (List.getD x9 (Int.toNat s.2.1) default).Orb.Node, (List.getD x9 (Int.toNat s.2.1) default).Orb.Peri, (List.getD x9 (Int.toNat s.2.1) default).Orb.Phase⟩⟩ : Entry);
   let x13 := IntKind.wrap .i64 (x10 + 1);
   let x14 := fofInt .f32 x13;
   .need ((decide (0 ≤ s.2.1) && decide (s.2.1 < ((List.length x12 : Nat) : Int)))) (
   .need ((decide ((Int.toNat s.2.1) < List.length x12))) (
   let x15 := List.set x12 (Int.toNat s.2.1) (⟨(List.getD x12 (Int.toNat s.2.1) default).Name, (List.getD x12 (Int.toNat s.2.1) default).Mass, ⟨(List.getD x12 (Int.toNat s.2.1) default).Orb.Long, (List.getD x12 (Int.toNat s.2.1) default).Orb.Round, x14, (List.getD x12 (Int.toNat s.2.1) default).Orb.Node, (List.getD x12 (Int.toNat s.2.1) default).Orb.Peri, (List.getD x12 (Int.toNat s.2.1) default).Orb.Phase⟩⟩ : Entry);
   let x16 := IntKind.wrap .i64 (x13 + 1);
   let x17 := fofInt .f32 x16;
   .need ((decide (0 ≤ s.2.1) && decide (s.2.1 < ((List.length x15 : Nat) : Int)))) (
   .need ((decide ((Int.toNat s.2.1) < List.length x15))) (
   let x18 := List.set x15 (Int.toNat s.2.1) (⟨(List.getD x15 (Int.toNat s.2.1) default).Name, (List.getD x15 (Int.toNat s.2.1) default).Mass, ⟨(List.getD x15 (Int.toNat s.2.1) default).Orb.Long, (List.getD x15 (Int.toNat s.2.1) default).Orb.Round, (List.getD x15 (Int.toNat s.2.1) default).Orb.Tilt, x17, (List.getD x15 (Int.toNat s.2.1) default).Orb.Peri, (List.getD x15 (Int.toNat s.2.1) default).Orb.Phase⟩⟩ : Entry);
   let x19 := IntKind.wrap .i64 (x16 + 1);
   let x20 := fofInt .f32 x19;
   .need ((decide (0 ≤ s.2.1) && decide (s.2.1 < ((List.length x18 : Nat) : Int)))) (
   .need ((decide ((Int.toNat s.2.1) < List.length x18))) (
   let x21 := List.set x18 (Int.toNat s.2.1) (⟨(List.getD x18 (Int.toNat s.2.1) default).Name, (List.getD x18 (Int.toNat s.2.1) default).Mass, ⟨(List.getD x18 (Int.toNat s.2.1) default).Orb.Long, (List.getD x18 (Int.toNat s.2.1) default).Orb.Round, (List.getD x18 (Int.toNat s.2.1) default).Orb.Tilt, (List.getD x18 (Int.toNat s.2.1) default).Orb.Node, x20, (List.getD x18 (Int.toNat s.2.1) default).Orb.Phase⟩⟩ : Entry);
   let x22 := IntKind.wrap .i64 (x19 + 1);
   let x23 := fofInt .f32 x22;
   .need ((decide (0 ≤ s.2.1) && decide (s.2.1 < ((List.length x21 : Nat) : Int)))) (
   .need ((decide ((Int.toNat s.2.1) < List.length x21))) (
   let x24 := List.set x21 (Int.toNat s.2.1) (⟨(List.getD x21 (Int.toNat s.2.1) default).Name, (List.getD x21 (Int.toNat s.2.1) default).Mass, ⟨(List.getD x21 (Int.toNat s.2.1) default).Orb.Long, (List.getD x21 (Int.toNat s.2.1) default).Orb.Round, (List.getD x21 (Int.toNat s.2.1) default).Orb.Tilt, (List.getD x21 (Int.toNat s.2.1) default).Orb.Node, (List.getD x21 (Int.toNat s.2.1) default).Orb.Peri, x23⟩⟩ : Entry);
   let x25 := IntKind.wrap .i64 (x22 + 1);
   let x26 := IntKind.wrap .i64 (s.2.1 + 1);
   .leaf (.inl (x25, x26, x24), [0])))))))))))))))))))
  (
   .leaf (.inr (s.1, s.2.2), [0]))
def laws_markEntryS_loop0_L (p : Unit) : LoopS (Int × Int × List Entry) (Int × List Entry) := { tl := fun s => [.own 0, .int .i64 s.1, .junk, .junk, .junk, .int .i64 s.2.1], hl := fun s => [some (.typed 85 .entry s.2.2)], ex := fun r => .exit 0, otl := fun r => [.junk, .int .i64 r.1], ohl := fun r => [some (.typed 85 .entry r.2)], gl := [.own 0], ogl := fun _ => [.own 0] }
def laws_markEntryS_loop0_ext : St → Option ((Unit) × (Int × Int × List Entry) × List Nat) := fun S => match (S.tm 0).unK, (S.tm 1).unK, (S.tm 5).unK with
  | .own i0, .int .i64 q0, .int .i64 q1 => (match S.gs with
    | [.own g0] => if g0 = i0 then (match S.hp i0 with
    | some (.typed 85 .entry q2) => some ((), (q0, q1, q2), [i0])
    | _ => none) else none
    | _ => none)
  | _, _, _ => none
def laws_markEntryS_loop0_post (p : Unit) (r : Int × List Entry) : DT (Ex × St) := .leaf (.exit 0, LSt [.junk, .int .i64 r.1] [some (.typed 85 .entry r.2)] [.own 0])
def laws_markEntryS_loop0 (p : Unit) (s : Int × Int × List Entry) : Int × List Entry := loopVal (laws_markEntryS_loop0_step p) s
def laws_markEntryS_loop0_ends (p : Unit) (s : Int × Int × List Entry) : Bool := loopEnds (laws_markEntryS_loop0_step p) s
def laws_markEntryS_loop0_F : LoopF := loopF laws_markEntryS_loop0_step laws_markEntryS_loop0_ext laws_markEntryS_loop0_post
theorem laws_markEntryS_loop0_hext : ∀ S p s fl, laws_markEntryS_loop0_ext S = some (p, s, fl) → Norm S fl ((laws_markEntryS_loop0_L p).tl s) ((laws_markEntryS_loop0_L p).hl s) (laws_markEntryS_loop0_L p).gl := by
  intro S p s fl h
  unfold laws_markEntryS_loop0_ext at h
  (repeat' split at h) <;> first
    | (cases h; constructor <;> simp_all [laws_markEntryS_loop0_L, keepT, keepH, rens, renH, PV.ren, Blk.ren, fOf, lget, nodup, natIn, lenEq, gtm, PV.unK])
    | cases h
theorem laws_markEntryS_loop0_hpost : ∀ p r e S', (laws_markEntryS_loop0_post p r).get = some (e, S') → e = (laws_markEntryS_loop0_L p).ex r ∧ S' = LSt ((laws_markEntryS_loop0_L p).otl r) ((laws_markEntryS_loop0_L p).ohl r) ((laws_markEntryS_loop0_L p).ogl r) := by
  intro p r e S' h
  unfold laws_markEntryS_loop0_post at h
  simp only [DT.get, Option.some.injEq, Prod.mk.injEq] at h; exact ⟨h.1.symm, h.2.symm⟩

def laws_markEntryS_loops : Nat → Option LoopF := loopTab [(2, laws_markEntryS_loop0_F)]
set_option maxRecDepth 100000 in
theorem laws_markEntryS_l0 : LoopOK Try.prog ⟨gam [(71, laws_markText_c)], tab, 83, laws_markEntryS_loops⟩ (lp Try.f18 0) :=
  loopOK_some (F := laws_markEntryS_loop0_F) (by kernel_rfl) (loopF_ok (E := ⟨gam [(71, laws_markText_c)], tab, 83, laws_markEntryS_loops⟩) ⟨gam_cons laws_markText_ok (gam_nil), tab_ok, by kernel_rfl⟩ (fuel := 100000) (loopsOK_list (l := []) (by kernel_rfl) trivial) (L := laws_markEntryS_loop0_L) (fun p s => by unfold AgreeL; exact ⟨by kernel_rfl, by kernel_rfl⟩) (fun _ _ h => Ex.noConfusion h) laws_markEntryS_loop0_hext laws_markEntryS_loop0_hpost)
/-- loop.example/g01284/laws.markEntryS -/
def laws_markEntryS_tree (a0 : List Entry) (a1 : Int) : DT (Int × List Entry) :=
  .need ((laws_markEntryS_loop0_ends () (a1, 0, a0))) (
  let x0 := laws_markEntryS_loop0 () (a1, 0, a0);
  .leaf (x0.1, x0.2))
def laws_markEntryS (a0 : List Entry) (a1 : Int) : Int × List Entry := (laws_markEntryS_tree a0 a1).val
def laws_markEntryS_need (a0 : List Entry) (a1 : Int) : Bool := (laws_markEntryS_tree a0 a1).ok
def laws_markEntryS_mk (p : Int × List Entry) : PV × List (.entry : UC).T := (.int .i64 p.1, p.2)
def laws_markEntryS_M : MCon := ⟨85, .entry, fun a0 ps => match ps with
  | [.int .i64 a1] => some (.need (laws_markEntryS_need a0 a1) (.leaf (laws_markEntryS_mk (laws_markEntryS a0 a1))))
  | _ => none⟩
set_option maxRecDepth 100000 in
theorem laws_markEntryS_ok : MutOK Try.prog 18 laws_markEntryS_M := by
  refine mut_ok (Γ := gam [(71, laws_markText_c)]) (gam_cons laws_markText_ok (gam_nil)) tab_ok (by kernel_rfl) Try.func18 (by kernel_rfl) (by kernel_rfl) Try.ntmps18 Try.results18 (loops := laws_markEntryS_loops) (loopsOK_list (l := [lp Try.f18 0]) (by kernel_rfl) ⟨laws_markEntryS_l0, trivial⟩) 100000 fun a0 ps t h => ?_
  simp only [laws_markEntryS_M] at h
  split at h
  · rename_i a1
    cases h
    exact ⟨rfl, agreeM_need (mk := laws_markEntryS_mk) (t := laws_markEntryS_tree a0 a1) (by unfold AgreeM; kernel_rfl)⟩
  · cases h

/-- a loop of laws_heldEntryS -/
def laws_heldEntryS_loop0_step (p : List Entry) (s : Int × Int) : Round (Int × Int) ((Int) ⊕ (Int)) :=
  let x0 := ((List.length p : Nat) : Int);
  let x1 := decide (s.2 < x0);
  .ask x1
  (
   .need ((decide (0 ≤ s.2) && decide (s.2 < ((List.length p : Nat) : Int)))) (
   let x2 := List.getD p (Int.toNat s.2) default;
   .need ((laws_markText_need s.1)) (
   let x3 := laws_markText s.1;
   let x4 := (!(x2.Name == x3));
   .ask x4
   (
    .leaf (.inr (.inl (-1)), []))
   (
    let x5 := IntKind.wrap .i64 (s.1 + 1);
    .need ((decide (0 ≤ s.2) && decide (s.2 < ((List.length p : Nat) : Int)))) (
    let x6 := List.getD p (Int.toNat s.2) default;
    let x7 := fofInt .f32 x5;
    let x8 := fne .f32 x6.Mass x7;
    .ask x8
    (
     .leaf (.inr (.inl (-1)), []))
    (
     let x9 := IntKind.wrap .i64 (x5 + 1);
     .need ((decide (0 ≤ s.2) && decide (s.2 < ((List.length p : Nat) : Int)))) (
     let x10 := List.getD p (Int.toNat s.2) default;
     let x11 := fofInt .f32 x9;
     let x12 := fne .f32 x10.Orb.Long x11;
     .ask x12
     (
      .leaf (.inr (.inl (-1)), []))
     (
      let x13 := IntKind.wrap .i64 (x9 + 1);
      .need ((decide (0 ≤ s.2) && decide (s.2 < ((List.length p : Nat) : Int)))) (
      let x14 := List.getD p (Int.toNat s.2) default;
      let x15 := fofInt .f32 x13;
      let x16 := fne .f32 x14.Orb.Round x15;
      .ask x16
      (
       .leaf (.inr (.inl (-1)), []))
      (
       let x17 := IntKind.wrap .i64 (x13 + 1);
       .need ((decide (0 ≤ s.2) && decide (s.2 < ((List.length p : Nat) : Int)))) (
       let x18 := List.getD p (Int.toNat s.2) default;
       let x19 := fofInt .f32 x17;
       let x20 := fne .f32 x18.Orb.Tilt x19;
       .ask x20
       (
        .leaf (.inr (.inl (-1)), []))
       (
        let x21 := IntKind.wrap .i64 (x17 + 1);
        .need ((decide (0 ≤ s.2) && decide (s.2 < ((List.length p : Nat) : Int)))) (
        let x22 := List.getD p (Int.toNat s.2) default;
        let x23 := fofInt .f32 x21;
        let x24 := fne .f32 x22.Orb.Node x23;
        .ask x24
        (
         .leaf (.inr (.inl (-1)), []))
        (
         let x25 := IntKind.wrap .i64 (x21 + 1);
         .need ((decide (0 ≤ s.2) && decide (s.2 < ((List.length p : Nat) : Int)))) (
         let x26 := List.getD p (Int.toNat s.2) default;
         let x27 := fofInt .f32 x25;
         let x28 := fne .f32 x26.Orb.Peri x27;
         .ask x28
         (
          .leaf (.inr (.inl (-1)), []))
         (
          let x29 := IntKind.wrap .i64 (x25 + 1);
          .need ((decide (0 ≤ s.2) && decide (s.2 < ((List.length p : Nat) : Int)))) (
          let x30 := List.getD p (Int.toNat s.2) default;
          let x31 := fofInt .f32 x29;
          let x32 := fne .f32 x30.Orb.Phase x31;
          .ask x32
          (
           .leaf (.inr (.inl (-1)), []))
          (
           let x33 := IntKind.wrap .i64 (x29 + 1);
           let x34 := IntKind.wrap .i64 (s.2 + 1);
           .leaf (.inl (x33, x34), [])))))))))))))))))))
  (
   .leaf (.inr (.inr s.1), []))
def laws_heldEntryS_loop0_L (p : List Entry) : LoopS (Int × Int) ((Int) ⊕ (Int)) := { tl := fun s => [.vslc 1 .entry p, .int .i64 s.1, .junk, .junk, .junk, .int .i64 s.2], hl := fun s => [], ex := fun r => match r with | .inl r => .ret | .inr r => .exit 0, otl := fun r => match r with | .inl r => [.junk, .junk, .junk, .junk, .int .i64 r] | .inr r => [.junk, .int .i64 r], ohl := fun r => match r with | .inl r => [] | .inr r => [] }
def laws_heldEntryS_loop0_ext : St → Option ((List Entry) × (Int × Int) × List Nat) := fun S => match (S.tm 0).unK, (S.tm 1).unK, (S.tm 5).unK with
  | .vslc 1 .entry q0, .int .i64 q1, .int .i64 q2 => some (q0, (q1, q2), [])
  | _, _, _ => none
def laws_heldEntryS_loop0_post (p : List Entry) (r : (Int) ⊕ (Int)) : DT (Ex × St) := .ask (isL r) (.leaf (.ret, LSt [.junk, .junk, .junk, .junk, .int .i64 ((leftD r))] [])) (.leaf (.exit 0, LSt [.junk, .int .i64 ((rightD r))] []))
def laws_heldEntryS_loop0 (p : List Entry) (s : Int × Int) : (Int) ⊕ (Int) := loopVal (laws_heldEntryS_loop0_step p) s
def laws_heldEntryS_loop0_ends (p : List Entry) (s : Int × Int) : Bool := loopEnds (laws_heldEntryS_loop0_step p) s
def laws_heldEntryS_loop0_F : LoopF := loopF laws_heldEntryS_loop0_step laws_heldEntryS_loop0_ext laws_heldEntryS_loop0_post
theorem laws_heldEntryS_loop0_hext : ∀ S p s fl, laws_heldEntryS_loop0_ext S = some (p, s, fl) → Norm S fl ((laws_heldEntryS_loop0_L p).tl s) ((laws_heldEntryS_loop0_L p).hl s) (laws_heldEntryS_loop0_L p).gl := by
  intro S p s fl h
  unfold laws_heldEntryS_loop0_ext at h
  (repeat' split at h) <;> first
    | (cases h; constructor <;> simp_all [laws_heldEntryS_loop0_L, keepT, keepH, rens, renH, PV.ren, Blk.ren, fOf, lget, nodup, natIn, lenEq, gtm, PV.unK])
    | cases h
theorem laws_heldEntryS_loop0_hpost : ∀ p r e S', (laws_heldEntryS_loop0_post p r).get = some (e, S') → e = (laws_heldEntryS_loop0_L p).ex r ∧ S' = LSt ((laws_heldEntryS_loop0_L p).otl r) ((laws_heldEntryS_loop0_L p).ohl r) ((laws_heldEntryS_loop0_L p).ogl r) := by
  intro p r e S' h
  unfold laws_heldEntryS_loop0_post at h
  cases r <;> (simp only [isL, DT.get, Option.some.injEq, Prod.mk.injEq] at h; exact ⟨h.1.symm, h.2.symm⟩)

def laws_heldEntryS_loops : Nat → Option LoopF := loopTab [(2, laws_heldEntryS_loop0_F)]
set_option maxRecDepth 100000 in
theorem laws_heldEntryS_l0 : LoopOK Try.prog ⟨gam [(71, laws_markText_c)], tab, 99, laws_heldEntryS_loops⟩ (lp Try.f19 0) :=
  loopOK_some (F := laws_heldEntryS_loop0_F) (by kernel_rfl) (loopF_ok (E := ⟨gam [(71, laws_markText_c)], tab, 99, laws_heldEntryS_loops⟩) ⟨gam_cons laws_markText_ok (gam_nil), tab_ok, by kernel_rfl⟩ (fuel := 100000) (loopsOK_list (l := []) (by kernel_rfl) trivial) (L := laws_heldEntryS_loop0_L) (fun p s => by unfold AgreeL; exact ⟨by kernel_rfl, by kernel_rfl⟩) (fun _ r h => by cases r <;> exact Ex.noConfusion h) laws_heldEntryS_loop0_hext laws_heldEntryS_loop0_hpost)
/-- loop.example/g01284/laws.heldEntryS -/
def laws_heldEntryS_tree (a0 : List Entry) (a1 : Int) : DT (Int) :=
  .need ((laws_heldEntryS_loop0_ends a0 (a1, 0))) (
  let x0 := laws_heldEntryS_loop0 a0 (a1, 0);
  .ask ((isL x0))
  (
   .leaf ((leftD x0)))
  (
   .leaf ((rightD x0))))
def laws_heldEntryS (a0 : List Entry) (a1 : Int) : Int := (laws_heldEntryS_tree a0 a1).val
def laws_heldEntryS_need (a0 : List Entry) (a1 : Int) : Bool := (laws_heldEntryS_tree a0 a1).ok
def laws_heldEntryS_mk (p : Int) : Ret := ⟨.int .i64 p, []⟩
def laws_heldEntryS_c0 : Con := fun args => match args with
  | [.vslc 1 .entry a0, .int .i64 a1] => some (.need (laws_heldEntryS_need a0 a1) (.leaf (laws_heldEntryS_mk (laws_heldEntryS a0 a1))))
  | _ => none
set_option maxRecDepth 100000 in
theorem laws_heldEntryS_ok0 : FunOK Try.prog 19 laws_heldEntryS_c0.fn := by
  refine con_ok (Γ := gam [(71, laws_markText_c)]) (gam_cons laws_markText_ok (gam_nil)) tab_ok (by kernel_rfl) Try.func19 (by kernel_rfl) (by kernel_rfl) Try.ntmps19 Try.results19 (loops := laws_heldEntryS_loops) (loopsOK_list (l := [lp Try.f19 0]) (by kernel_rfl) ⟨laws_heldEntryS_l0, trivial⟩) 100000 fun args t h => ?_
  unfold laws_heldEntryS_c0 at h
  split at h
  · rename_i a0 a1
    cases h
    exact ⟨rfl, agree_need (mk := laws_heldEntryS_mk) (t := laws_heldEntryS_tree a0 a1) (by unfold Agree; kernel_rfl)⟩
  · cases h
def laws_heldEntryS_c : Con := fun args => laws_heldEntryS_c0 (norms 0 [.slc .entry, .none] args)
set_option maxRecDepth 100000 in
theorem laws_heldEntryS_ok : FunOK Try.prog 19 laws_heldEntryS_c.fn := con_norm [.slc .entry, .none] laws_heldEntryS_ok0

/-- loop.example/g01284/laws.FnExactRecoverEntries -/
def laws_FnExactRecoverEntries_tree (a0 : (List UInt8)) : DT (Bool) :=
  let x0 := ((List.length a0 : Nat) : Int);
  let x1 := decide (x0 > 1048576);
  .ask x1
  (
   .leaf true)
  (
   .need ((spec_RecoverEntries_need a0)) (
   let x2 := spec_RecoverEntries a0;
   .need ((impl_RecoverEntries_need a0)) (
   let x3 := impl_RecoverEntries a0;
   .need ((laws_eqEntryS_need x3.1 x2.1)) (
   let x4 := laws_eqEntryS x3.1 x2.1;
   .ask (!x4)
   (
    .leaf false)
   (
    let x5 := (x3.2.1 != x2.2.1);
    .ask x5
    (
     .leaf false)
    (
     let x6 := (!(x3.2.2 == x2.2.2));
     .ask x6
     (
      .leaf false)
     (
      .need ((laws_markEntryS_need x3.1 1)) (
      let x7 := laws_markEntryS x3.1 1;
      .need ((laws_heldEntryS_need x7.2 1)) (
      let x8 := laws_heldEntryS x7.2 1;
      let x9 := decide (x8 < 0);
      .ask x9
      (
       .leaf false)
      (
       let x10 := (x8 != x7.1);
       .ask x10
       (
        .leaf false)
       (
        .need ((impl_RecoverEntries_need a0)) (
        let x11 := impl_RecoverEntries a0;
        .need ((laws_eqEntryS_need x11.1 x2.1)) (
        let x12 := laws_eqEntryS x11.1 x2.1;
        .ask (!x12)
        (
         .leaf false)
        (
         let x13 := (x11.2.1 != x2.2.1);
         .ask x13
         (
          .leaf false)
         (
          let x14 := (!(x11.2.2 == x2.2.2));
          .ask x14
          (
           .leaf false)
          (
           .need ((laws_heldEntryS_need x7.2 1)) (
           let x15 := laws_heldEntryS x7.2 1;
           let x16 := decide (x15 < 0);
           .ask x16
           (
            .leaf false)
           (
            let x17 := (x15 != x7.1);
            .ask x17
            (
             .leaf false)
            (
             .leaf true)))))))))))))))))))
def laws_FnExactRecoverEntries (a0 : (List UInt8)) : Bool := (laws_FnExactRecoverEntries_tree a0).val
def laws_FnExactRecoverEntries_need (a0 : (List UInt8)) : Bool := (laws_FnExactRecoverEntries_tree a0).ok
def laws_FnExactRecoverEntries_mk (p : Bool) : Ret := ⟨.bool p, []⟩
def laws_FnExactRecoverEntries_c : Con := fun args => match args with
  | [.str a0] => some (.need (laws_FnExactRecoverEntries_need a0) (.leaf (laws_FnExactRecoverEntries_mk (laws_FnExactRecoverEntries a0))))
  | _ => none
set_option maxRecDepth 100000 in
theorem laws_FnExactRecoverEntries_ok : FunOK Try.prog 3 laws_FnExactRecoverEntries_c.fn := by
  refine con_ok (Γ := gam [(15, spec_RecoverEntries_c), (16, impl_RecoverEntries_c), (17, laws_eqEntryS_c), (19, laws_heldEntryS_c)] [(18, laws_markEntryS_M)]) (gam_cons spec_RecoverEntries_ok (gam_cons impl_RecoverEntries_ok (gam_cons laws_eqEntryS_ok (gam_cons laws_heldEntryS_ok (gam_mut laws_markEntryS_ok (gam_nil)))))) tab_ok (by kernel_rfl) Try.func3 (by kernel_rfl) (by kernel_rfl) Try.ntmps3 Try.results3 (loopsOK_none rfl _) 100000 fun args t h => ?_
  unfold laws_FnExactRecoverEntries_c at h
  split at h
  · rename_i a0
    cases h
    exact ⟨rfl, agree_need (mk := laws_FnExactRecoverEntries_mk) (t := laws_FnExactRecoverEntries_tree a0) (by unfold Agree; kernel_rfl)⟩
  · cases h

end
end Go.Proofs.Ytodhhjcgjkfmpaa
