/- THE WALK, BY A PROGRAM: typed functions, and that the code is they. -/
import Derived.Test.YtcipkfndnkmjlaaDoorRead
namespace Go.Proofs.YtcipkfndnkmjlaaDoor
set_option linter.unusedVariables false
set_option linter.unusedSimpArgs false
open Go.Extern
noncomputable section

set_option maxRecDepth 100000 in
theorem math_Float32frombits_ok : FunOK Tryd.prog 139 math_Float32frombits_c.fn := frombits32_ok (run_callFunc_extern Tryd.func139 (by kernel_rfl) (by kernel_rfl) (by kernel_rfl) (by kernel_rfl))

set_option maxRecDepth 100000 in
theorem internal_bytealg_CountString_ok : FunOK Tryd.prog 183 internal_bytealg_CountString_c.fn := countString_ok (run_callFunc_extern Tryd.func183 (by kernel_rfl) (by kernel_rfl) (by kernel_rfl) (by kernel_rfl))

set_option maxRecDepth 100000 in
theorem internal_bytealg_IndexByteString_ok : FunOK Tryd.prog 174 internal_bytealg_IndexByteString_c.fn := indexByteString_ok (run_callFunc_extern Tryd.func174 (by kernel_rfl) (by kernel_rfl) (by kernel_rfl) (by kernel_rfl))

set_option maxRecDepth 100000 in
theorem math_Float64bits_ok : FunOK Tryd.prog 185 math_Float64bits_c.fn := bits64_ok (run_callFunc_extern Tryd.func185 (by kernel_rfl) (by kernel_rfl) (by kernel_rfl) (by kernel_rfl))

set_option maxRecDepth 100000 in
theorem math_Float64frombits_ok : FunOK Tryd.prog 184 math_Float64frombits_c.fn := frombits64_ok (run_callFunc_extern Tryd.func184 (by kernel_rfl) (by kernel_rfl) (by kernel_rfl) (by kernel_rfl))

/-- a loop of spec_l01Cut -/
def spec_l01Cut_loop0_step (p : (List UInt8) × Int) (s : Int × Int × List (List UInt8)) : Round (Int × Int × List (List UInt8)) (List (List UInt8)) :=
  let x0 := ((List.length p.1 : Nat) : Int);
  let x1 := decide (s.2.1 ≤ x0);
  .ask x1
  (
   let x2 := ((List.length p.1 : Nat) : Int);
   let x3 := (s.2.1 == x2);
   .ask x3
   (
    .need ((decide (0 ≤ s.2.1) && decide (s.2.1 ≤ ((List.length p.1 : Nat) : Int)))) (
    .need ((decide (0 ≤ s.1) && decide (s.1 ≤ (((Int.toNat s.2.1) : Nat) : Int)))) (
    let x4 := List.drop (Int.toNat s.1) (List.take (Int.toNat s.2.1) p.1);
    .need ((decide ((List.length s.2.2 + List.length [x4]) * 16 ≤ 140737488355328) && decide (List.length s.2.2 + List.length [x4] ≤ 9223372036854775807))) (
    let x5 := s.2.2 ++ [x4];
    let x6 := IntKind.wrap .i64 (s.2.1 + 1);
    let x7 := IntKind.wrap .i64 (s.2.1 + 1);
    .leaf (.inl (x6, x7, x5), [169])))))
   (
    .need ((decide (0 ≤ s.2.1) && decide (s.2.1 < ((List.length p.1 : Nat) : Int)))) (
    let x4 := ((List.getD (p.1 : List UInt8) (Int.toNat s.2.1) 0).toNat : Int);
    let x5 := (x4 == p.2);
    .ask x5
    (
     .need ((decide (0 ≤ s.2.1) && decide (s.2.1 ≤ ((List.length p.1 : Nat) : Int)))) (
     .need ((decide (0 ≤ s.1) && decide (s.1 ≤ (((Int.toNat s.2.1) : Nat) : Int)))) (
     let x6 := List.drop (Int.toNat s.1) (List.take (Int.toNat s.2.1) p.1);
     .need ((decide ((List.length s.2.2 + List.length [x6]) * 16 ≤ 140737488355328) && decide (List.length s.2.2 + List.length [x6] ≤ 9223372036854775807))) (
     let x7 := s.2.2 ++ [x6];
     let x8 := IntKind.wrap .i64 (s.2.1 + 1);
     let x9 := IntKind.wrap .i64 (s.2.1 + 1);
     .leaf (.inl (x8, x9, x7), [169])))))
    (
     let x6 := IntKind.wrap .i64 (s.2.1 + 1);
     .leaf (.inl (s.1, x6, s.2.2), [0])))))
  (
   .leaf (.inr s.2.2, [0]))
def spec_l01Cut_loop0_L (p : (List UInt8) × Int) : LoopS (Int × Int × List (List UInt8)) (List (List UInt8)) := { tl := fun s => [.str p.1, .int .u8 p.2, .junk, .junk, .junk, .own 0, .int .i64 s.1, .int .i64 s.2.1], hl := fun s => [some (.typed 9 .str s.2.2)], ex := fun r => .exit 0, otl := fun r => [.junk, .junk, .junk, .junk, .junk, .own 0], ohl := fun r => [some (.typed 9 .str r)] }
def spec_l01Cut_loop0_ext : St → Option (((List UInt8) × Int) × (Int × Int × List (List UInt8)) × List Nat) := fun S => match (S.tm 0).unK, (S.tm 1).unK, (S.tm 5).unK, (S.tm 6).unK, (S.tm 7).unK with
  | .str q0, .int .u8 q1, .own i0, .int .i64 q2, .int .i64 q3 => (match S.hp i0 with
    | some (.typed 9 .str q4) => some ((q0, q1), (q2, q3, q4), [i0])
    | _ => none)
  | _, _, _, _, _ => none
def spec_l01Cut_loop0_post (p : (List UInt8) × Int) (r : List (List UInt8)) : DT (Ex × St) := .leaf (.exit 0, LSt [.junk, .junk, .junk, .junk, .junk, .own 0] [some (.typed 9 .str r)])
def spec_l01Cut_loop0 (p : (List UInt8) × Int) (s : Int × Int × List (List UInt8)) : List (List UInt8) := loopVal (spec_l01Cut_loop0_step p) s
def spec_l01Cut_loop0_ends (p : (List UInt8) × Int) (s : Int × Int × List (List UInt8)) : Bool := loopEnds (spec_l01Cut_loop0_step p) s
def spec_l01Cut_loop0_F : LoopF := loopF spec_l01Cut_loop0_step spec_l01Cut_loop0_ext spec_l01Cut_loop0_post
theorem spec_l01Cut_loop0_hext : ∀ S p s fl, spec_l01Cut_loop0_ext S = some (p, s, fl) → Norm S fl ((spec_l01Cut_loop0_L p).tl s) ((spec_l01Cut_loop0_L p).hl s) (spec_l01Cut_loop0_L p).gl := by
  intro S p s fl h
  unfold spec_l01Cut_loop0_ext at h
  (repeat' split at h) <;> first
    | (cases h; constructor <;> simp_all [spec_l01Cut_loop0_L, keepT, keepH, rens, renH, PV.ren, Blk.ren, fOf, lget, nodup, natIn, lenEq, gtm, PV.unK])
    | cases h
theorem spec_l01Cut_loop0_hpost : ∀ p r e S', (spec_l01Cut_loop0_post p r).get = some (e, S') → e = (spec_l01Cut_loop0_L p).ex r ∧ S' = LSt ((spec_l01Cut_loop0_L p).otl r) ((spec_l01Cut_loop0_L p).ohl r) ((spec_l01Cut_loop0_L p).ogl r) := by
  intro p r e S' h
  unfold spec_l01Cut_loop0_post at h
  simp only [DT.get, Option.some.injEq, Prod.mk.injEq] at h; exact ⟨h.1.symm, h.2.symm⟩

def spec_l01Cut_loops : Nat → Option LoopF := loopTab [(4, spec_l01Cut_loop0_F)]
set_option maxRecDepth 100000 in
theorem spec_l01Cut_l0 : LoopOK Tryd.prog ⟨gam [], tab, 36, spec_l01Cut_loops⟩ (lp Tryd.f122 0) :=
  loopOK_some (F := spec_l01Cut_loop0_F) (by kernel_rfl) (loopF_ok (E := ⟨gam [], tab, 36, spec_l01Cut_loops⟩) ⟨gam_nil, tab_ok, by kernel_rfl⟩ (fuel := 100000) (loopsOK_list (l := []) (by kernel_rfl) trivial) (L := spec_l01Cut_loop0_L) (fun p s => by unfold AgreeL; exact ⟨by kernel_rfl, by kernel_rfl⟩) (fun _ _ h => Ex.noConfusion h) spec_l01Cut_loop0_hext spec_l01Cut_loop0_hpost)
/-- loop.example/g01284/spec.l01Cut -/
def spec_l01Cut_tree (a0 : (List UInt8)) (a1 : Int) : DT (List (List UInt8)) :=
  .need ((spec_l01Cut_loop0_ends (a0, a1) (0, 0, []))) (
  let x0 := spec_l01Cut_loop0 (a0, a1) (0, 0, []);
  .leaf x0)
def spec_l01Cut (a0 : (List UInt8)) (a1 : Int) : List (List UInt8) := (spec_l01Cut_tree a0 a1).val
def spec_l01Cut_need (a0 : (List UInt8)) (a1 : Int) : Bool := (spec_l01Cut_tree a0 a1).ok
def spec_l01Cut_mk (p : List (List UInt8)) : Ret := ⟨.own 0, [.typed 9 .str p]⟩
def spec_l01Cut_c : Con := fun args => match args with
  | [.str a0, .int .u8 a1] => some (.need (spec_l01Cut_need a0 a1) (.leaf (spec_l01Cut_mk (spec_l01Cut a0 a1))))
  | _ => none
set_option maxRecDepth 100000 in
theorem spec_l01Cut_ok : FunOK Tryd.prog 122 spec_l01Cut_c.fn := by
  refine con_ok (Γ := gam []) (gam_nil) tab_ok (by kernel_rfl) Tryd.func122 (by kernel_rfl) (by kernel_rfl) Tryd.ntmps122 Tryd.results122 (loops := spec_l01Cut_loops) (loopsOK_list (l := [lp Tryd.f122 0]) (by kernel_rfl) ⟨spec_l01Cut_l0, trivial⟩) 100000 fun args t h => ?_
  unfold spec_l01Cut_c at h
  split at h
  · rename_i a0 a1
    cases h
    exact ⟨rfl, agree_need (mk := spec_l01Cut_mk) (t := spec_l01Cut_tree a0 a1) (by unfold Agree; kernel_rfl)⟩
  · cases h

/-- loop.example/g01284/spec.l01From -/
def spec_l01From_tree (a0 : Int) : DT (Nat) :=
  let x0 := IntKind.wrap .u32 a0;
  let x1 := canon .f32 (Int.toNat x0);
  .leaf x1
def spec_l01From (a0 : Int) : Nat := (spec_l01From_tree a0).val
def spec_l01From_mk (p : Nat) : Ret := ⟨.flt .f32 p, []⟩
def spec_l01From_c : Con := fun args => match args with
  | [.int .i64 a0] => some (.leaf (spec_l01From_mk (spec_l01From a0)))
  | _ => none
set_option maxRecDepth 100000 in
theorem spec_l01From_ok : FunOK Tryd.prog 137 spec_l01From_c.fn := by
  refine con_ok (Γ := gam [(139, math_Float32frombits_c)]) (gam_cons math_Float32frombits_ok (gam_nil)) tab_ok (by kernel_rfl) Tryd.func137 (by kernel_rfl) (by kernel_rfl) Tryd.ntmps137 Tryd.results137 (loopsOK_none rfl _) 100000 fun args t h => ?_
  unfold spec_l01From_c at h
  split at h
  · rename_i a0
    cases h
    exact ⟨rfl, agree_tot (mk := spec_l01From_mk) (t := spec_l01From_tree a0) (by unfold Agree; kernel_rfl) (by kernel_rfl)⟩
  · cases h

/-- loop.example/g01284/spec.l01Bits -/
def spec_l01Bits_tree (a0 : Nat) : DT (Int) :=
  let x0 := fne .f32 a0 a0;
  .ask x0
  (
   .leaf 2143289344)
  (
   .need ((!isNaN .f32 a0)) (
   let x1 := IntKind.wrap .i64 ((a0 : Nat) : Int);
   .leaf x1))
def spec_l01Bits (a0 : Nat) : Int := (spec_l01Bits_tree a0).val
def spec_l01Bits_need (a0 : Nat) : Bool := (spec_l01Bits_tree a0).ok
def spec_l01Bits_mk (p : Int) : Ret := ⟨.int .i64 p, []⟩
def spec_l01Bits_c : Con := fun args => match args with
  | [.flt .f32 a0] => some (.need (spec_l01Bits_need a0) (.leaf (spec_l01Bits_mk (spec_l01Bits a0))))
  | _ => none
set_option maxRecDepth 100000 in
theorem spec_l01Bits_ok : FunOK Tryd.prog 129 spec_l01Bits_c.fn := by
  refine con_ok (Γ := gam [(144, math_Float32bits_c)]) (gam_cons math_Float32bits_ok (gam_nil)) tab_ok (by kernel_rfl) Tryd.func129 (by kernel_rfl) (by kernel_rfl) Tryd.ntmps129 Tryd.results129 (loopsOK_none rfl _) 100000 fun args t h => ?_
  unfold spec_l01Bits_c at h
  split at h
  · rename_i a0
    cases h
    exact ⟨rfl, agree_need (mk := spec_l01Bits_mk) (t := spec_l01Bits_tree a0) (by unfold Agree; kernel_rfl)⟩
  · cases h

/-- a loop of spec_l01NRead -/
def spec_l01NRead_loop1_step (p : Int × List Nat × List (List UInt8)) (s : Int × Int) : Round (Int × Int) ((Unit) ⊕ (Int)) :=
  let x0 := decide (s.2 < 8);
  .ask x0
  (
   .need ((decide (0 ≤ p.1) && decide (p.1 < ((List.length p.2.2 : Nat) : Int)))) (
   .need ((decide ((Int.toNat p.1) < List.length p.2.2))) (
   let x1 := List.getD p.2.2 (Int.toNat p.1) default;
   .need ((decide (0 ≤ s.2) && decide (s.2 < ((List.length x1 : Nat) : Int)))) (
   let x2 := ((List.getD (x1 : List UInt8) (Int.toNat s.2) 0).toNat : Int);
   let x3 := decide (x2 ≥ 48);
   .ask x3
   (
    let x4 := decide (x2 ≤ 57);
    .ask x4
    (
     let x5 := IntKind.wrap .u8 (x2 - 48);
     let x6 := IntKind.wrap .i64 x5;
     let x7 := decide (x2 ≥ 97);
     .ask x7
     (
      let x8 := decide (x2 ≤ 102);
      .ask x8
      (
       let x9 := IntKind.wrap .u8 (x2 - 97);
       let x10 := IntKind.wrap .i64 x9;
       let x11 := IntKind.wrap .i64 (x10 + 10);
       let x12 := decide (x11 < 0);
       .ask x12
       (
        .leaf (.inr (.inl ()), []))
       (
        let x13 := IntKind.wrap .i64 (16 * s.1);
        let x14 := IntKind.wrap .i64 (x13 + x11);
        let x15 := IntKind.wrap .i64 (s.2 + 1);
        .leaf (.inl (x14, x15), [0, 1])))
      (
       let x9 := decide (x6 < 0);
       .ask x9
       (
        .leaf (.inr (.inl ()), []))
       (
        let x10 := IntKind.wrap .i64 (16 * s.1);
        let x11 := IntKind.wrap .i64 (x10 + x6);
        let x12 := IntKind.wrap .i64 (s.2 + 1);
        .leaf (.inl (x11, x12), [0, 1]))))
     (
      let x8 := decide (x6 < 0);
      .ask x8
      (
       .leaf (.inr (.inl ()), []))
      (
       let x9 := IntKind.wrap .i64 (16 * s.1);
       let x10 := IntKind.wrap .i64 (x9 + x6);
       let x11 := IntKind.wrap .i64 (s.2 + 1);
       .leaf (.inl (x10, x11), [0, 1]))))
    (
     let x5 := decide (x2 ≥ 97);
     .ask x5
     (
      let x6 := decide (x2 ≤ 102);
      .ask x6
      (
       let x7 := IntKind.wrap .u8 (x2 - 97);
       let x8 := IntKind.wrap .i64 x7;
       let x9 := IntKind.wrap .i64 (x8 + 10);
       let x10 := decide (x9 < 0);
       .ask x10
       (
        .leaf (.inr (.inl ()), []))
       (
        let x11 := IntKind.wrap .i64 (16 * s.1);
        let x12 := IntKind.wrap .i64 (x11 + x9);
        let x13 := IntKind.wrap .i64 (s.2 + 1);
        .leaf (.inl (x12, x13), [0, 1])))
      (
       .skip (
       .leaf (.inr (.inl ()), []))))
     (
      .skip (
      .leaf (.inr (.inl ()), [])))))
   (
    let x4 := decide (x2 ≥ 97);
    .ask x4
    (
     let x5 := decide (x2 ≤ 102);
     .ask x5
     (
      let x6 := IntKind.wrap .u8 (x2 - 97);
      let x7 := IntKind.wrap .i64 x6;
      let x8 := IntKind.wrap .i64 (x7 + 10);
      let x9 := decide (x8 < 0);
      .ask x9
      (
       .leaf (.inr (.inl ()), []))
      (
       let x10 := IntKind.wrap .i64 (16 * s.1);
       let x11 := IntKind.wrap .i64 (x10 + x8);
       let x12 := IntKind.wrap .i64 (s.2 + 1);
       .leaf (.inl (x11, x12), [0, 1])))
     (
      .skip (
      .leaf (.inr (.inl ()), []))))
    (
     .skip (
     .leaf (.inr (.inl ()), []))))))))
  (
   .leaf (.inr (.inr s.1), [0, 1]))
def spec_l01NRead_loop1_L (p : Int × List Nat × List (List UInt8)) : LoopS (Int × Int) ((Unit) ⊕ (Int)) := { tl := fun s => [.junk, .junk, .junk, .junk, .own 0, .own 1, .int .i64 p.1, .int .i64 s.1, .int .i64 s.2], hl := fun s => [some (.typed 22 (.flt .f32) p.2.1), some (.typed 9 .str p.2.2)], ex := fun r => match r with | .inl r => .ret | .inr r => .exit 2, otl := fun r => match r with | .inl r => [.junk, .junk, .nils, .bool false] | .inr r => [.junk, .junk, .junk, .junk, .own 0, .own 1, .int .i64 p.1, .int .i64 r], ohl := fun r => match r with | .inl r => [] | .inr r => [some (.typed 22 (.flt .f32) p.2.1), some (.typed 9 .str p.2.2)] }
def spec_l01NRead_loop1_ext : St → Option ((Int × List Nat × List (List UInt8)) × (Int × Int) × List Nat) := fun S => match (S.tm 4).unK, (S.tm 5).unK, (S.tm 6).unK, (S.tm 7).unK, (S.tm 8).unK with
  | .own i0, .own i1, .int .i64 q0, .int .i64 q1, .int .i64 q2 => (match S.hp i0 with
    | some (.typed 22 (.flt .f32) q3) => (match S.hp i1 with
    | some (.typed 9 .str q4) => (if nodup [i0, i1] = true then some ((q0, q3, q4), (q1, q2), [i0, i1]) else none)
    | _ => none)
    | _ => none)
  | _, _, _, _, _ => none
def spec_l01NRead_loop1_post (p : Int × List Nat × List (List UInt8)) (r : (Unit) ⊕ (Int)) : DT (Ex × St) := .ask (isL r) (.leaf (.ret, LSt [.junk, .junk, .nils, .bool false] [])) (.leaf (.exit 2, LSt [.junk, .junk, .junk, .junk, .own 0, .own 1, .int .i64 p.1, .int .i64 ((rightD r))] [some (.typed 22 (.flt .f32) p.2.1), some (.typed 9 .str p.2.2)]))
def spec_l01NRead_loop1 (p : Int × List Nat × List (List UInt8)) (s : Int × Int) : (Unit) ⊕ (Int) := loopVal (spec_l01NRead_loop1_step p) s
def spec_l01NRead_loop1_ends (p : Int × List Nat × List (List UInt8)) (s : Int × Int) : Bool := loopEnds (spec_l01NRead_loop1_step p) s
def spec_l01NRead_loop1_F : LoopF := loopF spec_l01NRead_loop1_step spec_l01NRead_loop1_ext spec_l01NRead_loop1_post
theorem spec_l01NRead_loop1_hext : ∀ S p s fl, spec_l01NRead_loop1_ext S = some (p, s, fl) → Norm S fl ((spec_l01NRead_loop1_L p).tl s) ((spec_l01NRead_loop1_L p).hl s) (spec_l01NRead_loop1_L p).gl := by
  intro S p s fl h
  unfold spec_l01NRead_loop1_ext at h
  (repeat' split at h) <;> first
    | (cases h; constructor <;> simp_all [spec_l01NRead_loop1_L, keepT, keepH, rens, renH, PV.ren, Blk.ren, fOf, lget, nodup, natIn, lenEq, gtm, PV.unK])
    | cases h
theorem spec_l01NRead_loop1_hpost : ∀ p r e S', (spec_l01NRead_loop1_post p r).get = some (e, S') → e = (spec_l01NRead_loop1_L p).ex r ∧ S' = LSt ((spec_l01NRead_loop1_L p).otl r) ((spec_l01NRead_loop1_L p).ohl r) ((spec_l01NRead_loop1_L p).ogl r) := by
  intro p r e S' h
  unfold spec_l01NRead_loop1_post at h
  cases r <;> (simp only [isL, DT.get, Option.some.injEq, Prod.mk.injEq] at h; exact ⟨h.1.symm, h.2.symm⟩)

/-- a loop of spec_l01NRead -/
def spec_l01NRead_loop0_step (p : List (List UInt8)) (s : Int × List Nat) : Round (Int × List Nat) ((Unit) ⊕ (List Nat)) :=
  let x0 := ((List.length p : Nat) : Int);
  let x1 := decide (s.1 < x0);
  .ask x1
  (
   .need ((decide (0 ≤ s.1) && decide (s.1 < ((List.length p : Nat) : Int)))) (
   .need ((decide ((Int.toNat s.1) < List.length p))) (
   let x2 := List.getD p (Int.toNat s.1) default;
   let x3 := ((List.length x2 : Nat) : Int);
   let x4 := (x3 != 8);
   .ask x4
   (
    .leaf (.inr (.inl ()), []))
   (
    .need ((spec_l01NRead_loop1_ends (s.1, s.2, p) (0, 0))) (
    let x5 := spec_l01NRead_loop1 (s.1, s.2, p) (0, 0);
    .ask ((isL x5))
    (
     .leaf (.inr (.inl ()), []))
    (
     let x6 := spec_l01From ((rightD x5));
     .need ((spec_l01Bits_need x6)) (
     let x7 := spec_l01Bits x6;
     let x8 := (x7 != (rightD x5));
     .ask x8
     (
      .leaf (.inr (.inl ()), []))
     (
      .need ((decide ((List.length s.2 + List.length [x6]) * 4 ≤ 140737488355328) && decide (List.length s.2 + List.length [x6] ≤ 9223372036854775807))) (
      let x9 := s.2 ++ [x6];
      let x10 := IntKind.wrap .i64 (s.1 + 1);
      .leaf (.inl (x10, x9), [82, 1]))))))))))
  (
   .leaf (.inr (.inr s.2), [0]))
def spec_l01NRead_loop0_L (p : List (List UInt8)) : LoopS (Int × List Nat) ((Unit) ⊕ (List Nat)) := { tl := fun s => [.junk, .junk, .junk, .junk, .own 0, .own 1, .int .i64 s.1], hl := fun s => [some (.typed 22 (.flt .f32) s.2), some (.typed 9 .str p)], ex := fun r => match r with | .inl r => .ret | .inr r => .exit 0, otl := fun r => match r with | .inl r => [.junk, .junk, .nils, .bool false] | .inr r => [.junk, .junk, .junk, .junk, .own 0], ohl := fun r => match r with | .inl r => [] | .inr r => [some (.typed 22 (.flt .f32) r)] }
def spec_l01NRead_loop0_ext : St → Option ((List (List UInt8)) × (Int × List Nat) × List Nat) := fun S => match (S.tm 4).unK, (S.tm 5).unK, (S.tm 6).unK with
  | .own i0, .own i1, .int .i64 q0 => (match S.hp i0 with
    | some (.typed 22 (.flt .f32) q1) => (match S.hp i1 with
    | some (.typed 9 .str q2) => (if nodup [i0, i1] = true then some (q2, (q0, q1), [i0, i1]) else none)
    | _ => none)
    | _ => none)
  | _, _, _ => none
def spec_l01NRead_loop0_post (p : List (List UInt8)) (r : (Unit) ⊕ (List Nat)) : DT (Ex × St) := .ask (isL r) (.leaf (.ret, LSt [.junk, .junk, .nils, .bool false] [])) (.leaf (.exit 0, LSt [.junk, .junk, .junk, .junk, .own 0] [some (.typed 22 (.flt .f32) ((rightD r)))]))
def spec_l01NRead_loop0 (p : List (List UInt8)) (s : Int × List Nat) : (Unit) ⊕ (List Nat) := loopVal (spec_l01NRead_loop0_step p) s
def spec_l01NRead_loop0_ends (p : List (List UInt8)) (s : Int × List Nat) : Bool := loopEnds (spec_l01NRead_loop0_step p) s
def spec_l01NRead_loop0_F : LoopF := loopF spec_l01NRead_loop0_step spec_l01NRead_loop0_ext spec_l01NRead_loop0_post
theorem spec_l01NRead_loop0_hext : ∀ S p s fl, spec_l01NRead_loop0_ext S = some (p, s, fl) → Norm S fl ((spec_l01NRead_loop0_L p).tl s) ((spec_l01NRead_loop0_L p).hl s) (spec_l01NRead_loop0_L p).gl := by
  intro S p s fl h
  unfold spec_l01NRead_loop0_ext at h
  (repeat' split at h) <;> first
    | (cases h; constructor <;> simp_all [spec_l01NRead_loop0_L, keepT, keepH, rens, renH, PV.ren, Blk.ren, fOf, lget, nodup, natIn, lenEq, gtm, PV.unK])
    | cases h
theorem spec_l01NRead_loop0_hpost : ∀ p r e S', (spec_l01NRead_loop0_post p r).get = some (e, S') → e = (spec_l01NRead_loop0_L p).ex r ∧ S' = LSt ((spec_l01NRead_loop0_L p).otl r) ((spec_l01NRead_loop0_L p).ohl r) ((spec_l01NRead_loop0_L p).ogl r) := by
  intro p r e S' h
  unfold spec_l01NRead_loop0_post at h
  cases r <;> (simp only [isL, DT.get, Option.some.injEq, Prod.mk.injEq] at h; exact ⟨h.1.symm, h.2.symm⟩)

def spec_l01NRead_loops : Nat → Option LoopF := loopTab [(14, spec_l01NRead_loop1_F), (8, spec_l01NRead_loop0_F)]
set_option maxRecDepth 100000 in
theorem spec_l01NRead_l1 : LoopOK Tryd.prog ⟨gam [(122, spec_l01Cut_c), (137, spec_l01From_c), (129, spec_l01Bits_c)], tab, 79, spec_l01NRead_loops⟩ (lp Tryd.f111 1) :=
  loopOK_some (F := spec_l01NRead_loop1_F) (by kernel_rfl) (loopF_ok (E := ⟨gam [(122, spec_l01Cut_c), (137, spec_l01From_c), (129, spec_l01Bits_c)], tab, 79, spec_l01NRead_loops⟩) ⟨gam_cons spec_l01Cut_ok (gam_cons spec_l01From_ok (gam_cons spec_l01Bits_ok (gam_nil))), tab_ok, by kernel_rfl⟩ (fuel := 100000) (loopsOK_list (l := []) (by kernel_rfl) trivial) (L := spec_l01NRead_loop1_L) (fun p s => by unfold AgreeL; exact ⟨by kernel_rfl, by kernel_rfl⟩) (fun _ r h => by cases r <;> exact Ex.noConfusion h) spec_l01NRead_loop1_hext spec_l01NRead_loop1_hpost)
set_option maxRecDepth 100000 in
theorem spec_l01NRead_l0 : LoopOK Tryd.prog ⟨gam [(122, spec_l01Cut_c), (137, spec_l01From_c), (129, spec_l01Bits_c)], tab, 79, spec_l01NRead_loops⟩ (lp Tryd.f111 0) :=
  loopOK_some (F := spec_l01NRead_loop0_F) (by kernel_rfl) (loopF_ok (E := ⟨gam [(122, spec_l01Cut_c), (137, spec_l01From_c), (129, spec_l01Bits_c)], tab, 79, spec_l01NRead_loops⟩) ⟨gam_cons spec_l01Cut_ok (gam_cons spec_l01From_ok (gam_cons spec_l01Bits_ok (gam_nil))), tab_ok, by kernel_rfl⟩ (fuel := 100000) (loopsOK_list (l := [lp Tryd.f111 1]) (by kernel_rfl) ⟨spec_l01NRead_l1, trivial⟩) (L := spec_l01NRead_loop0_L) (fun p s => by unfold AgreeL; exact ⟨by kernel_rfl, by kernel_rfl⟩) (fun _ r h => by cases r <;> exact Ex.noConfusion h) spec_l01NRead_loop0_hext spec_l01NRead_loop0_hpost)
/-- loop.example/g01284/spec.l01NRead -/
def spec_l01NRead_tree (a0 : (List UInt8)) : DT ((List Nat) ⊕ (Unit)) :=
  let x0 := (a0 == [110, 111, 110, 101]);
  .ask x0
  (
   .leaf (.inl []))
  (
   .need ((spec_l01Cut_need a0 44)) (
   let x1 := spec_l01Cut a0 44;
   let x2 := ((List.length x1 : Nat) : Int);
   let x3 := decide (x2 > 256);
   .ask x3
   (
    .leaf (.inr ()))
   (
    .need ((spec_l01NRead_loop0_ends x1 (0, []))) (
    let x4 := spec_l01NRead_loop0 x1 (0, []);
    .ask ((isL x4))
    (
     .leaf (.inr ()))
    (
     .leaf (.inl ((rightD x4))))))))
def spec_l01NRead (a0 : (List UInt8)) : (List Nat) ⊕ (Unit) := (spec_l01NRead_tree a0).val
def spec_l01NRead_need (a0 : (List UInt8)) : Bool := (spec_l01NRead_tree a0).ok
def spec_l01NRead_mk0 (p : List Nat) : Ret := ⟨.tup [.own 0, .bool true], [.typed 22 (.flt .f32) p]⟩
def spec_l01NRead_mk1 (p : Unit) : Ret := ⟨.tup [.nils, .bool false], []⟩
def spec_l01NRead_mk : (List Nat) ⊕ (Unit) → Ret := fun v => match v with
  | (.inl p) => spec_l01NRead_mk0 p
  | (.inr p) => spec_l01NRead_mk1 p
def spec_l01NRead_forms (v : (List Nat) ⊕ (Unit)) : DT Ret := .ask (isL v) (.leaf (spec_l01NRead_mk0 (leftD v))) (.leaf (spec_l01NRead_mk1 (rightD v)))
theorem spec_l01NRead_forms_get : ∀ v, (spec_l01NRead_forms v).get = some (spec_l01NRead_mk v) := by
  intro v
  rcases v with v | v <;> rfl
def spec_l01NRead_c : Con := fun args => match args with
  | [.str a0] => some (.need (spec_l01NRead_need a0) (spec_l01NRead_forms (spec_l01NRead a0)))
  | _ => none
set_option maxRecDepth 100000 in
theorem spec_l01NRead_ok : FunOK Tryd.prog 111 spec_l01NRead_c.fn := by
  refine con_ok (Γ := gam [(122, spec_l01Cut_c), (137, spec_l01From_c), (129, spec_l01Bits_c)]) (gam_cons spec_l01Cut_ok (gam_cons spec_l01From_ok (gam_cons spec_l01Bits_ok (gam_nil)))) tab_ok (by kernel_rfl) Tryd.func111 (by kernel_rfl) (by kernel_rfl) Tryd.ntmps111 Tryd.results111 (loops := spec_l01NRead_loops) (loopsOK_list (l := [lp Tryd.f111 0, lp Tryd.f111 1]) (by kernel_rfl) ⟨spec_l01NRead_l0, ⟨spec_l01NRead_l1, trivial⟩⟩) 100000 fun args t h => ?_
  unfold spec_l01NRead_c at h
  split at h
  · rename_i a0
    cases h
    exact ⟨rfl, agree_forms (mk := spec_l01NRead_mk) (t := spec_l01NRead_tree a0) (by unfold Agree; kernel_rfl) (fun h => h) (spec_l01NRead_forms_get _)⟩
  · cases h

/-- loop.example/g01284/spec.l01Finite -/
def spec_l01Finite_tree (a0 : Nat) : DT (Bool) :=
  let x0 := fsub .f32 a0 a0;
  let x1 := feq .f32 x0 0;
  .leaf x1
def spec_l01Finite (a0 : Nat) : Bool := (spec_l01Finite_tree a0).val
def spec_l01Finite_mk (p : Bool) : Ret := ⟨.bool p, []⟩
def spec_l01Finite_c : Con := fun args => match args with
  | [.flt .f32 a0] => some (.leaf (spec_l01Finite_mk (spec_l01Finite a0)))
  | _ => none
set_option maxRecDepth 100000 in
theorem spec_l01Finite_ok : FunOK Tryd.prog 94 spec_l01Finite_c.fn := by
  refine con_ok (Γ := gam []) (gam_nil) tab_ok (by kernel_rfl) Tryd.func94 (by kernel_rfl) (by kernel_rfl) Tryd.ntmps94 Tryd.results94 (loopsOK_none rfl _) 100000 fun args t h => ?_
  unfold spec_l01Finite_c at h
  split at h
  · rename_i a0
    cases h
    exact ⟨rfl, agree_tot (mk := spec_l01Finite_mk) (t := spec_l01Finite_tree a0) (by unfold Agree; kernel_rfl) (by kernel_rfl)⟩
  · cases h

/-- loop.example/g01284/spec.l02Above -/
def spec_l02Above_tree (a0 : Nat) : DT (Bool) :=
  let x0 := spec_l01Finite a0;
  .ask x0
  (
   let x1 := fgt .f32 a0 0;
   .leaf x1)
  (
   .leaf false)
def spec_l02Above (a0 : Nat) : Bool := (spec_l02Above_tree a0).val
def spec_l02Above_mk (p : Bool) : Ret := ⟨.bool p, []⟩
def spec_l02Above_c : Con := fun args => match args with
  | [.flt .f32 a0] => some (.leaf (spec_l02Above_mk (spec_l02Above a0)))
  | _ => none
set_option maxRecDepth 100000 in
theorem spec_l02Above_ok : FunOK Tryd.prog 93 spec_l02Above_c.fn := by
  refine con_ok (Γ := gam [(94, spec_l01Finite_c)]) (gam_cons spec_l01Finite_ok (gam_nil)) tab_ok (by kernel_rfl) Tryd.func93 (by kernel_rfl) (by kernel_rfl) Tryd.ntmps93 Tryd.results93 (loopsOK_none rfl _) 100000 fun args t h => ?_
  unfold spec_l02Above_c at h
  split at h
  · rename_i a0
    cases h
    exact ⟨rfl, agree_tot (mk := spec_l02Above_mk) (t := spec_l02Above_tree a0) (by unfold Agree; kernel_rfl) (by kernel_rfl)⟩
  · cases h

/-- loop.example/g01284/spec.l06Ball -/
def spec_l06Ball_tree (a0 : Ball) : DT (Bool) :=
  let x0 := spec_l02Above a0.Mass;
  .ask x0
  (
   let x1 := spec_l02Above a0.Radius;
   .ask x1
   (
    let x2 := spec_l01Finite a0.Spin;
    .ask x2
    (
     let x3 := spec_l01Finite a0.Start;
     .leaf x3)
    (
     .leaf false))
   (
    .leaf false))
  (
   .leaf false)
def spec_l06Ball (a0 : Ball) : Bool := (spec_l06Ball_tree a0).val
def spec_l06Ball_mk (p : Bool) : Ret := ⟨.bool p, []⟩
def spec_l06Ball_c0 : Con := fun args => match args with
  | [.vcell [.flt .f32 a0_0, .flt .f32 a0_1, .flt .f32 a0_2, .flt .f32 a0_3] 0] => some (.leaf (spec_l06Ball_mk (spec_l06Ball (⟨a0_0, a0_1, a0_2, a0_3⟩ : Ball))))
  | _ => none
set_option maxRecDepth 100000 in
theorem spec_l06Ball_ok0 : FunOK Tryd.prog 52 spec_l06Ball_c0.fn := by
  refine con_ok (Γ := gam [(93, spec_l02Above_c), (94, spec_l01Finite_c)]) (gam_cons spec_l02Above_ok (gam_cons spec_l01Finite_ok (gam_nil))) tab_ok (by kernel_rfl) Tryd.func52 (by kernel_rfl) (by kernel_rfl) Tryd.ntmps52 Tryd.results52 (loopsOK_none rfl _) 100000 fun args t h => ?_
  unfold spec_l06Ball_c0 at h
  split at h
  · rename_i a0_0 a0_1 a0_2 a0_3
    cases h
    exact ⟨rfl, agree_tot (mk := spec_l06Ball_mk) (t := spec_l06Ball_tree (⟨a0_0, a0_1, a0_2, a0_3⟩ : Ball)) (by unfold Agree; kernel_rfl) (by kernel_rfl)⟩
  · cases h
def spec_l06Ball_c : Con := fun args => spec_l06Ball_c0 (norms 0 [.ptr 4] args)
set_option maxRecDepth 100000 in
theorem spec_l06Ball_ok : FunOK Tryd.prog 52 spec_l06Ball_c.fn := con_norm [.ptr 4] spec_l06Ball_ok0

/-- loop.example/g01284/spec.l08ReadBall -/
def spec_l08ReadBall_tree (a0 : (List UInt8)) : DT (Ball × Bool) :=
  .need ((spec_l01NRead_need a0)) (
  let x0 := spec_l01NRead a0;
  .ask ((isL x0))
  (
   .skip (
   .skip (
   let x1 := ((List.length (leftD x0) : Nat) : Int);
   .skip (
   let x2 := (x1 != 4);
   .skip (
   .ask x2
   (
    .leaf ((⟨0, 0, 0, 0⟩ : Ball), false))
   (
    .need ((decide (0 ≤ 0) && decide (0 < ((List.length (leftD x0) : Nat) : Int)))) (
    .need ((decide (0 < List.length (leftD x0)))) (
    let x3 := List.getD (leftD x0) 0 default;
    .need ((decide (0 ≤ 1) && decide (1 < ((List.length (leftD x0) : Nat) : Int)))) (
    .need ((decide (1 < List.length (leftD x0)))) (
    let x4 := List.getD (leftD x0) 1 default;
    .need ((decide (0 ≤ 2) && decide (2 < ((List.length (leftD x0) : Nat) : Int)))) (
    .need ((decide (2 < List.length (leftD x0)))) (
    let x5 := List.getD (leftD x0) 2 default;
    .need ((decide (0 ≤ 3) && decide (3 < ((List.length (leftD x0) : Nat) : Int)))) (
    .need ((decide (3 < List.length (leftD x0)))) (
    let x6 := List.getD (leftD x0) 3 default;
    let x7 := spec_l06Ball (⟨x3, x4, x5, x6⟩ : Ball);
    .ask (!x7)
    (
     .leaf ((⟨0, 0, 0, 0⟩ : Ball), false))
    (
     .leaf ((⟨x3, x4, x5, x6⟩ : Ball), true))))))))))))))))
  (
   .skip (
   .skip (
   .skip (
   .skip (
   .leaf ((⟨0, 0, 0, 0⟩ : Ball), false)))))))
def spec_l08ReadBall (a0 : (List UInt8)) : Ball × Bool := (spec_l08ReadBall_tree a0).val
def spec_l08ReadBall_need (a0 : (List UInt8)) : Bool := (spec_l08ReadBall_tree a0).ok
def spec_l08ReadBall_mk (p : Ball × Bool) : Ret := ⟨.tup [.agg [.flt .f32 p.1.Mass, .flt .f32 p.1.Radius, .flt .f32 p.1.Spin, .flt .f32 p.1.Start], .bool p.2], []⟩
def spec_l08ReadBall_c : Con := fun args => match args with
  | [.str a0] => some (.need (spec_l08ReadBall_need a0) (.leaf (spec_l08ReadBall_mk (spec_l08ReadBall a0))))
  | _ => none
set_option maxRecDepth 100000 in
theorem spec_l08ReadBall_ok : FunOK Tryd.prog 73 spec_l08ReadBall_c.fn := by
  refine con_ok (Γ := gam [(111, spec_l01NRead_c), (52, spec_l06Ball_c)]) (gam_cons spec_l01NRead_ok (gam_cons spec_l06Ball_ok (gam_nil))) tab_ok (by kernel_rfl) Tryd.func73 (by kernel_rfl) (by kernel_rfl) Tryd.ntmps73 Tryd.results73 (loopsOK_none rfl _) 100000 fun args t h => ?_
  unfold spec_l08ReadBall_c at h
  split at h
  · rename_i a0
    cases h
    exact ⟨rfl, agree_need (mk := spec_l08ReadBall_mk) (t := spec_l08ReadBall_tree a0) (by unfold Agree; kernel_rfl)⟩
  · cases h

/-- loop.example/g01284/spec.ReadBall -/
def spec_ReadBall_tree (a0 : (List UInt8)) : DT (Ball × Bool) :=
  .need ((spec_l08ReadBall_need a0)) (
  let x0 := spec_l08ReadBall a0;
  .leaf ((⟨x0.1.Mass, x0.1.Radius, x0.1.Spin, x0.1.Start⟩ : Ball), x0.2))
def spec_ReadBall (a0 : (List UInt8)) : Ball × Bool := (spec_ReadBall_tree a0).val
def spec_ReadBall_need (a0 : (List UInt8)) : Bool := (spec_ReadBall_tree a0).ok
def spec_ReadBall_mk (p : Ball × Bool) : Ret := ⟨.tup [.agg [.flt .f32 p.1.Mass, .flt .f32 p.1.Radius, .flt .f32 p.1.Spin, .flt .f32 p.1.Start], .bool p.2], []⟩
def spec_ReadBall_c : Con := fun args => match args with
  | [.str a0] => some (.need (spec_ReadBall_need a0) (.leaf (spec_ReadBall_mk (spec_ReadBall a0))))
  | _ => none
set_option maxRecDepth 100000 in
theorem spec_ReadBall_ok : FunOK Tryd.prog 32 spec_ReadBall_c.fn := by
  refine con_ok (Γ := gam [(73, spec_l08ReadBall_c)]) (gam_cons spec_l08ReadBall_ok (gam_nil)) tab_ok (by kernel_rfl) Tryd.func32 (by kernel_rfl) (by kernel_rfl) Tryd.ntmps32 Tryd.results32 (loopsOK_none rfl _) 100000 fun args t h => ?_
  unfold spec_ReadBall_c at h
  split at h
  · rename_i a0
    cases h
    exact ⟨rfl, agree_need (mk := spec_ReadBall_mk) (t := spec_ReadBall_tree a0) (by unfold Agree; kernel_rfl)⟩
  · cases h

-- FAILED 181 unicode/utf8.RuneCountInString: operation

-- FAILED 191 unicode/utf8.decodeRuneInStringSlow: global

-- FAILED 182 unicode/utf8.DecodeRuneInString: no contract: unicode/utf8.decodeRuneInStringSlow 

-- FAILED 161 strings.explode: no contract: unicode/utf8.RuneCountInString 

/-- internal/stringslite.IndexByte -/
def internal_stringslite_IndexByte_tree (a0 : (List UInt8)) (a1 : Int) : DT (Int) :=
  let x0 := Go.Lib.indexByte a0 (Nat.toUInt8 (Int.toNat a1));
  .leaf x0
def internal_stringslite_IndexByte (a0 : (List UInt8)) (a1 : Int) : Int := (internal_stringslite_IndexByte_tree a0 a1).val
def internal_stringslite_IndexByte_mk (p : Int) : Ret := ⟨.int .i64 p, []⟩
def internal_stringslite_IndexByte_c : Con := fun args => match args with
  | [.str a0, .int .u8 a1] => some (.leaf (internal_stringslite_IndexByte_mk (internal_stringslite_IndexByte a0 a1)))
  | _ => none
set_option maxRecDepth 100000 in
theorem internal_stringslite_IndexByte_ok : FunOK Tryd.prog 153 internal_stringslite_IndexByte_c.fn := by
  refine con_ok (Γ := gam [(174, internal_bytealg_IndexByteString_c)]) (gam_cons internal_bytealg_IndexByteString_ok (gam_nil)) tab_ok (by kernel_rfl) Tryd.func153 (by kernel_rfl) (by kernel_rfl) Tryd.ntmps153 Tryd.results153 (loopsOK_none rfl _) 100000 fun args t h => ?_
  unfold internal_stringslite_IndexByte_c at h
  split at h
  · rename_i a0 a1
    cases h
    exact ⟨rfl, agree_tot (mk := internal_stringslite_IndexByte_mk) (t := internal_stringslite_IndexByte_tree a0 a1) (by unfold Agree; kernel_rfl) (by kernel_rfl)⟩
  · cases h

-- FAILED 154 internal/bytealg.IndexString: no body

/-- internal/bytealg.Cutover -/
def internal_bytealg_Cutover_tree (a0 : Int) : DT (Int) :=
  let x0 := IntKind.wrap .i64 (a0 + 16);
  .skip (
  let x1 := IntKind.wrap .i64 (Int.tdiv x0 8);
  .leaf x1)
def internal_bytealg_Cutover (a0 : Int) : Int := (internal_bytealg_Cutover_tree a0).val
def internal_bytealg_Cutover_mk (p : Int) : Ret := ⟨.int .i64 p, []⟩
def internal_bytealg_Cutover_c : Con := fun args => match args with
  | [.int .i64 a0] => some (.leaf (internal_bytealg_Cutover_mk (internal_bytealg_Cutover a0)))
  | _ => none
set_option maxRecDepth 100000 in
theorem internal_bytealg_Cutover_ok : FunOK Tryd.prog 155 internal_bytealg_Cutover_c.fn := by
  refine con_ok (Γ := gam []) (gam_nil) tab_ok (by kernel_rfl) Tryd.func155 (by kernel_rfl) (by kernel_rfl) Tryd.ntmps155 Tryd.results155 (loopsOK_none rfl _) 100000 fun args t h => ?_
  unfold internal_bytealg_Cutover_c at h
  split at h
  · rename_i a0
    cases h
    exact ⟨rfl, agree_tot (mk := internal_bytealg_Cutover_mk) (t := internal_bytealg_Cutover_tree a0) (by unfold Agree; kernel_rfl) (by kernel_rfl)⟩
  · cases h

/-- a loop of internal_bytealg_hashStr_string_ -/
def internal_bytealg_hashStr_string__loop0_step (p : (List UInt8)) (s : Int × Int) : Round (Int × Int) (Int) :=
  let x0 := ((List.length p : Nat) : Int);
  let x1 := decide (s.2 < x0);
  .ask x1
  (
   let x2 := IntKind.wrap .u32 (s.1 * 16777619);
   .need ((decide (0 ≤ s.2) && decide (s.2 < ((List.length p : Nat) : Int)))) (
   let x3 := ((List.getD (p : List UInt8) (Int.toNat s.2) 0).toNat : Int);
   let x4 := IntKind.wrap .u32 x3;
   let x5 := IntKind.wrap .u32 (x2 + x4);
   let x6 := IntKind.wrap .i64 (s.2 + 1);
   .leaf (.inl (x5, x6), [])))
  (
   .leaf (.inr s.1, []))
def internal_bytealg_hashStr_string__loop0_L (p : (List UInt8)) : LoopS (Int × Int) (Int) := { tl := fun s => [.str p, .junk, .junk, .junk, .int .u32 s.1, .int .i64 s.2], hl := fun s => [], ex := fun r => .exit 0, otl := fun r => [.str p, .junk, .junk, .junk, .int .u32 r], ohl := fun r => [] }
def internal_bytealg_hashStr_string__loop0_ext : St → Option (((List UInt8)) × (Int × Int) × List Nat) := fun S => match (S.tm 0).unK, (S.tm 4).unK, (S.tm 5).unK with
  | .str q0, .int .u32 q1, .int .i64 q2 => some (q0, (q1, q2), [])
  | _, _, _ => none
def internal_bytealg_hashStr_string__loop0_post (p : (List UInt8)) (r : Int) : DT (Ex × St) := .leaf (.exit 0, LSt [.str p, .junk, .junk, .junk, .int .u32 r] [])
def internal_bytealg_hashStr_string__loop0 (p : (List UInt8)) (s : Int × Int) : Int := loopVal (internal_bytealg_hashStr_string__loop0_step p) s
def internal_bytealg_hashStr_string__loop0_ends (p : (List UInt8)) (s : Int × Int) : Bool := loopEnds (internal_bytealg_hashStr_string__loop0_step p) s
def internal_bytealg_hashStr_string__loop0_F : LoopF := loopF internal_bytealg_hashStr_string__loop0_step internal_bytealg_hashStr_string__loop0_ext internal_bytealg_hashStr_string__loop0_post
theorem internal_bytealg_hashStr_string__loop0_hext : ∀ S p s fl, internal_bytealg_hashStr_string__loop0_ext S = some (p, s, fl) → Norm S fl ((internal_bytealg_hashStr_string__loop0_L p).tl s) ((internal_bytealg_hashStr_string__loop0_L p).hl s) (internal_bytealg_hashStr_string__loop0_L p).gl := by
  intro S p s fl h
  unfold internal_bytealg_hashStr_string__loop0_ext at h
  (repeat' split at h) <;> first
    | (cases h; constructor <;> simp_all [internal_bytealg_hashStr_string__loop0_L, keepT, keepH, rens, renH, PV.ren, Blk.ren, fOf, lget, nodup, natIn, lenEq, gtm, PV.unK])
    | cases h
theorem internal_bytealg_hashStr_string__loop0_hpost : ∀ p r e S', (internal_bytealg_hashStr_string__loop0_post p r).get = some (e, S') → e = (internal_bytealg_hashStr_string__loop0_L p).ex r ∧ S' = LSt ((internal_bytealg_hashStr_string__loop0_L p).otl r) ((internal_bytealg_hashStr_string__loop0_L p).ohl r) ((internal_bytealg_hashStr_string__loop0_L p).ogl r) := by
  intro p r e S' h
  unfold internal_bytealg_hashStr_string__loop0_post at h
  simp only [DT.get, Option.some.injEq, Prod.mk.injEq] at h; exact ⟨h.1.symm, h.2.symm⟩

/-- a loop of internal_bytealg_hashStr_string_ -/
def internal_bytealg_hashStr_string__loop1_step (p : Int) (s : Int × Int × Int) : Round (Int × Int × Int) (Int) :=
  let x0 := decide (s.2.2 > 0);
  .ask x0
  (
   let x1 := IntKind.wrap .i64 (BitVec.ofInt (IntKind.bits .i64) s.2.2 &&& BitVec.ofInt (IntKind.bits .i64) 1).toNat;
   let x2 := (x1 != 0);
   .ask x2
   (
    let x3 := IntKind.wrap .u32 (s.1 * s.2.1);
    let x4 := IntKind.wrap .u32 (s.2.1 * s.2.1);
    .skip (
    let x5 := Int.fdiv s.2.2 (2 ^ (min (Int.toNat 1) (IntKind.bits .i64)));
    .leaf (.inl (x3, x4, x5), [])))
   (
    let x3 := IntKind.wrap .u32 (s.2.1 * s.2.1);
    .skip (
    let x4 := Int.fdiv s.2.2 (2 ^ (min (Int.toNat 1) (IntKind.bits .i64)));
    .leaf (.inl (s.1, x3, x4), []))))
  (
   .leaf (.inr s.1, []))
def internal_bytealg_hashStr_string__loop1_L (p : Int) : LoopS (Int × Int × Int) (Int) := { tl := fun s => [.junk, .junk, .junk, .junk, .int .u32 p, .junk, .int .u32 s.1, .int .u32 s.2.1, .int .i64 s.2.2], hl := fun s => [], ex := fun r => .exit 2, otl := fun r => [.junk, .junk, .junk, .junk, .int .u32 p, .junk, .int .u32 r], ohl := fun r => [] }
def internal_bytealg_hashStr_string__loop1_ext : St → Option ((Int) × (Int × Int × Int) × List Nat) := fun S => match (S.tm 4).unK, (S.tm 6).unK, (S.tm 7).unK, (S.tm 8).unK with
  | .int .u32 q0, .int .u32 q1, .int .u32 q2, .int .i64 q3 => some (q0, (q1, q2, q3), [])
  | _, _, _, _ => none
def internal_bytealg_hashStr_string__loop1_post (p : Int) (r : Int) : DT (Ex × St) := .leaf (.exit 2, LSt [.junk, .junk, .junk, .junk, .int .u32 p, .junk, .int .u32 r] [])
def internal_bytealg_hashStr_string__loop1 (p : Int) (s : Int × Int × Int) : Int := loopVal (internal_bytealg_hashStr_string__loop1_step p) s
def internal_bytealg_hashStr_string__loop1_ends (p : Int) (s : Int × Int × Int) : Bool := loopEnds (internal_bytealg_hashStr_string__loop1_step p) s
def internal_bytealg_hashStr_string__loop1_F : LoopF := loopF internal_bytealg_hashStr_string__loop1_step internal_bytealg_hashStr_string__loop1_ext internal_bytealg_hashStr_string__loop1_post
theorem internal_bytealg_hashStr_string__loop1_hext : ∀ S p s fl, internal_bytealg_hashStr_string__loop1_ext S = some (p, s, fl) → Norm S fl ((internal_bytealg_hashStr_string__loop1_L p).tl s) ((internal_bytealg_hashStr_string__loop1_L p).hl s) (internal_bytealg_hashStr_string__loop1_L p).gl := by
  intro S p s fl h
  unfold internal_bytealg_hashStr_string__loop1_ext at h
  (repeat' split at h) <;> first
    | (cases h; constructor <;> simp_all [internal_bytealg_hashStr_string__loop1_L, keepT, keepH, rens, renH, PV.ren, Blk.ren, fOf, lget, nodup, natIn, lenEq, gtm, PV.unK])
    | cases h
theorem internal_bytealg_hashStr_string__loop1_hpost : ∀ p r e S', (internal_bytealg_hashStr_string__loop1_post p r).get = some (e, S') → e = (internal_bytealg_hashStr_string__loop1_L p).ex r ∧ S' = LSt ((internal_bytealg_hashStr_string__loop1_L p).otl r) ((internal_bytealg_hashStr_string__loop1_L p).ohl r) ((internal_bytealg_hashStr_string__loop1_L p).ogl r) := by
  intro p r e S' h
  unfold internal_bytealg_hashStr_string__loop1_post at h
  simp only [DT.get, Option.some.injEq, Prod.mk.injEq] at h; exact ⟨h.1.symm, h.2.symm⟩

def internal_bytealg_hashStr_string__loops : Nat → Option LoopF := loopTab [(3, internal_bytealg_hashStr_string__loop0_F), (8, internal_bytealg_hashStr_string__loop1_F)]
set_option maxRecDepth 100000 in
theorem internal_bytealg_hashStr_string__l1 : LoopOK Tryd.prog ⟨gam [], tab, 39, internal_bytealg_hashStr_string__loops⟩ (lp Tryd.f175 1) :=
  loopOK_some (F := internal_bytealg_hashStr_string__loop1_F) (by kernel_rfl) (loopF_ok (E := ⟨gam [], tab, 39, internal_bytealg_hashStr_string__loops⟩) ⟨gam_nil, tab_ok, by kernel_rfl⟩ (fuel := 100000) (loopsOK_list (l := []) (by kernel_rfl) trivial) (L := internal_bytealg_hashStr_string__loop1_L) (fun p s => by unfold AgreeL; exact ⟨by kernel_rfl, by kernel_rfl⟩) (fun _ _ h => Ex.noConfusion h) internal_bytealg_hashStr_string__loop1_hext internal_bytealg_hashStr_string__loop1_hpost)
set_option maxRecDepth 100000 in
theorem internal_bytealg_hashStr_string__l0 : LoopOK Tryd.prog ⟨gam [], tab, 39, internal_bytealg_hashStr_string__loops⟩ (lp Tryd.f175 0) :=
  loopOK_some (F := internal_bytealg_hashStr_string__loop0_F) (by kernel_rfl) (loopF_ok (E := ⟨gam [], tab, 39, internal_bytealg_hashStr_string__loops⟩) ⟨gam_nil, tab_ok, by kernel_rfl⟩ (fuel := 100000) (loopsOK_list (l := []) (by kernel_rfl) trivial) (L := internal_bytealg_hashStr_string__loop0_L) (fun p s => by unfold AgreeL; exact ⟨by kernel_rfl, by kernel_rfl⟩) (fun _ _ h => Ex.noConfusion h) internal_bytealg_hashStr_string__loop0_hext internal_bytealg_hashStr_string__loop0_hpost)
/-- internal/bytealg.hashStr[string] -/
def internal_bytealg_hashStr_string__tree (a0 : (List UInt8)) : DT (Int × Int) :=
  .need ((internal_bytealg_hashStr_string__loop0_ends a0 (0, 0))) (
  let x0 := internal_bytealg_hashStr_string__loop0 a0 (0, 0);
  let x1 := ((List.length a0 : Nat) : Int);
  .need ((internal_bytealg_hashStr_string__loop1_ends x0 (1, 16777619, x1))) (
  let x2 := internal_bytealg_hashStr_string__loop1 x0 (1, 16777619, x1);
  .leaf (x0, x2)))
def internal_bytealg_hashStr_string_ (a0 : (List UInt8)) : Int × Int := (internal_bytealg_hashStr_string__tree a0).val
def internal_bytealg_hashStr_string__need (a0 : (List UInt8)) : Bool := (internal_bytealg_hashStr_string__tree a0).ok
def internal_bytealg_hashStr_string__mk (p : Int × Int) : Ret := ⟨.tup [.int .u32 p.1, .int .u32 p.2], []⟩
def internal_bytealg_hashStr_string__c : Con := fun args => match args with
  | [.str a0] => some (.need (internal_bytealg_hashStr_string__need a0) (.leaf (internal_bytealg_hashStr_string__mk (internal_bytealg_hashStr_string_ a0))))
  | _ => none
set_option maxRecDepth 100000 in
theorem internal_bytealg_hashStr_string__ok : FunOK Tryd.prog 175 internal_bytealg_hashStr_string__c.fn := by
  refine con_ok (Γ := gam []) (gam_nil) tab_ok (by kernel_rfl) Tryd.func175 (by kernel_rfl) (by kernel_rfl) Tryd.ntmps175 Tryd.results175 (loops := internal_bytealg_hashStr_string__loops) (loopsOK_list (l := [lp Tryd.f175 0, lp Tryd.f175 1]) (by kernel_rfl) ⟨internal_bytealg_hashStr_string__l0, ⟨internal_bytealg_hashStr_string__l1, trivial⟩⟩) 100000 fun args t h => ?_
  unfold internal_bytealg_hashStr_string__c at h
  split at h
  · rename_i a0
    cases h
    exact ⟨rfl, agree_need (mk := internal_bytealg_hashStr_string__mk) (t := internal_bytealg_hashStr_string__tree a0) (by unfold Agree; kernel_rfl)⟩
  · cases h

/-- a loop of internal_bytealg_IndexRabinKarp_string_ -/
def internal_bytealg_IndexRabinKarp_string__loop0_step (p : (List UInt8) × (List UInt8) × Int × Int × Int) (s : Int × Int) : Round (Int × Int) (Int) :=
  let x0 := decide (s.2 < p.2.2.2.2);
  .ask x0
  (
   let x1 := IntKind.wrap .u32 (s.1 * 16777619);
   .need ((decide (0 ≤ s.2) && decide (s.2 < ((List.length p.1 : Nat) : Int)))) (
   let x2 := ((List.getD (p.1 : List UInt8) (Int.toNat s.2) 0).toNat : Int);
   let x3 := IntKind.wrap .u32 x2;
   let x4 := IntKind.wrap .u32 (x1 + x3);
   let x5 := IntKind.wrap .i64 (s.2 + 1);
   .leaf (.inl (x4, x5), [])))
  (
   .leaf (.inr s.1, []))
def internal_bytealg_IndexRabinKarp_string__loop0_L (p : (List UInt8) × (List UInt8) × Int × Int × Int) : LoopS (Int × Int) (Int) := { tl := fun s => [.str p.1, .str p.2.1, .junk, .junk, .junk, .int .u32 p.2.2.1, .int .u32 p.2.2.2.1, .int .i64 p.2.2.2.2, .int .u32 s.1, .int .i64 s.2], hl := fun s => [], ex := fun r => .exit 0, otl := fun r => [.str p.1, .str p.2.1, .junk, .junk, .junk, .int .u32 p.2.2.1, .int .u32 p.2.2.2.1, .int .i64 p.2.2.2.2, .int .u32 r], ohl := fun r => [] }
def internal_bytealg_IndexRabinKarp_string__loop0_ext : St → Option (((List UInt8) × (List UInt8) × Int × Int × Int) × (Int × Int) × List Nat) := fun S => match (S.tm 0).unK, (S.tm 1).unK, (S.tm 5).unK, (S.tm 6).unK, (S.tm 7).unK, (S.tm 8).unK, (S.tm 9).unK with
  | .str q0, .str q1, .int .u32 q2, .int .u32 q3, .int .i64 q4, .int .u32 q5, .int .i64 q6 => some ((q0, q1, q2, q3, q4), (q5, q6), [])
  | _, _, _, _, _, _, _ => none
def internal_bytealg_IndexRabinKarp_string__loop0_post (p : (List UInt8) × (List UInt8) × Int × Int × Int) (r : Int) : DT (Ex × St) := .leaf (.exit 0, LSt [.str p.1, .str p.2.1, .junk, .junk, .junk, .int .u32 p.2.2.1, .int .u32 p.2.2.2.1, .int .i64 p.2.2.2.2, .int .u32 r] [])
def internal_bytealg_IndexRabinKarp_string__loop0 (p : (List UInt8) × (List UInt8) × Int × Int × Int) (s : Int × Int) : Int := loopVal (internal_bytealg_IndexRabinKarp_string__loop0_step p) s
def internal_bytealg_IndexRabinKarp_string__loop0_ends (p : (List UInt8) × (List UInt8) × Int × Int × Int) (s : Int × Int) : Bool := loopEnds (internal_bytealg_IndexRabinKarp_string__loop0_step p) s
def internal_bytealg_IndexRabinKarp_string__loop0_F : LoopF := loopF internal_bytealg_IndexRabinKarp_string__loop0_step internal_bytealg_IndexRabinKarp_string__loop0_ext internal_bytealg_IndexRabinKarp_string__loop0_post
theorem internal_bytealg_IndexRabinKarp_string__loop0_hext : ∀ S p s fl, internal_bytealg_IndexRabinKarp_string__loop0_ext S = some (p, s, fl) → Norm S fl ((internal_bytealg_IndexRabinKarp_string__loop0_L p).tl s) ((internal_bytealg_IndexRabinKarp_string__loop0_L p).hl s) (internal_bytealg_IndexRabinKarp_string__loop0_L p).gl := by
  intro S p s fl h
  unfold internal_bytealg_IndexRabinKarp_string__loop0_ext at h
  (repeat' split at h) <;> first
    | (cases h; constructor <;> simp_all [internal_bytealg_IndexRabinKarp_string__loop0_L, keepT, keepH, rens, renH, PV.ren, Blk.ren, fOf, lget, nodup, natIn, lenEq, gtm, PV.unK])
    | cases h
theorem internal_bytealg_IndexRabinKarp_string__loop0_hpost : ∀ p r e S', (internal_bytealg_IndexRabinKarp_string__loop0_post p r).get = some (e, S') → e = (internal_bytealg_IndexRabinKarp_string__loop0_L p).ex r ∧ S' = LSt ((internal_bytealg_IndexRabinKarp_string__loop0_L p).otl r) ((internal_bytealg_IndexRabinKarp_string__loop0_L p).ohl r) ((internal_bytealg_IndexRabinKarp_string__loop0_L p).ogl r) := by
  intro p r e S' h
  unfold internal_bytealg_IndexRabinKarp_string__loop0_post at h
  simp only [DT.get, Option.some.injEq, Prod.mk.injEq] at h; exact ⟨h.1.symm, h.2.symm⟩

/-- a loop of internal_bytealg_IndexRabinKarp_string_ -/
def internal_bytealg_IndexRabinKarp_string__loop1_step (p : (List UInt8) × (List UInt8) × Int × Int × Int) (s : Int × Int) : Round (Int × Int) ((Int) ⊕ (Unit)) :=
  let x0 := ((List.length p.1 : Nat) : Int);
  let x1 := decide (s.2 < x0);
  .ask x1
  (
   let x2 := IntKind.wrap .u32 (s.1 * 16777619);
   .need ((decide (0 ≤ s.2) && decide (s.2 < ((List.length p.1 : Nat) : Int)))) (
   let x3 := ((List.getD (p.1 : List UInt8) (Int.toNat s.2) 0).toNat : Int);
   let x4 := IntKind.wrap .u32 x3;
   let x5 := IntKind.wrap .u32 (x2 + x4);
   let x6 := IntKind.wrap .i64 (s.2 - p.2.2.2.2);
   .need ((decide (0 ≤ x6) && decide (x6 < ((List.length p.1 : Nat) : Int)))) (
   let x7 := ((List.getD (p.1 : List UInt8) (Int.toNat x6) 0).toNat : Int);
   let x8 := IntKind.wrap .u32 x7;
   let x9 := IntKind.wrap .u32 (p.2.2.2.1 * x8);
   let x10 := IntKind.wrap .u32 (x5 - x9);
   let x11 := IntKind.wrap .i64 (s.2 + 1);
   let x12 := (x10 == p.2.2.1);
   .ask x12
   (
    let x13 := IntKind.wrap .i64 (x11 - p.2.2.2.2);
    .need ((decide (0 ≤ x11) && decide (x11 ≤ ((List.length p.1 : Nat) : Int)))) (
    .need ((decide (0 ≤ x13) && decide (x13 ≤ (((Int.toNat x11) : Nat) : Int)))) (
    let x14 := List.drop (Int.toNat x13) (List.take (Int.toNat x11) p.1);
    let x15 := (x14 == p.2.1);
    .ask x15
    (
     let x16 := IntKind.wrap .i64 (x11 - p.2.2.2.2);
     .leaf (.inr (.inl x16), []))
    (
     .leaf (.inl (x10, x11), [])))))
   (
    .leaf (.inl (x10, x11), [])))))
  (
   .leaf (.inr (.inr ()), []))
def internal_bytealg_IndexRabinKarp_string__loop1_L (p : (List UInt8) × (List UInt8) × Int × Int × Int) : LoopS (Int × Int) ((Int) ⊕ (Unit)) := { tl := fun s => [.str p.1, .str p.2.1, .junk, .junk, .junk, .int .u32 p.2.2.1, .int .u32 p.2.2.2.1, .int .i64 p.2.2.2.2, .int .u32 s.1, .junk, .int .i64 s.2], hl := fun s => [], ex := fun r => match r with | .inl r => .ret | .inr r => .exit 2, otl := fun r => match r with | .inl r => [.junk, .junk, .junk, .junk, .int .i64 r] | .inr r => [.junk], ohl := fun r => match r with | .inl r => [] | .inr r => [] }
def internal_bytealg_IndexRabinKarp_string__loop1_ext : St → Option (((List UInt8) × (List UInt8) × Int × Int × Int) × (Int × Int) × List Nat) := fun S => match (S.tm 0).unK, (S.tm 1).unK, (S.tm 5).unK, (S.tm 6).unK, (S.tm 7).unK, (S.tm 8).unK, (S.tm 10).unK with
  | .str q0, .str q1, .int .u32 q2, .int .u32 q3, .int .i64 q4, .int .u32 q5, .int .i64 q6 => some ((q0, q1, q2, q3, q4), (q5, q6), [])
  | _, _, _, _, _, _, _ => none
def internal_bytealg_IndexRabinKarp_string__loop1_post (p : (List UInt8) × (List UInt8) × Int × Int × Int) (r : (Int) ⊕ (Unit)) : DT (Ex × St) := .ask (isL r) (.leaf (.ret, LSt [.junk, .junk, .junk, .junk, .int .i64 ((leftD r))] [])) (.leaf (.exit 2, LSt [.junk] []))
def internal_bytealg_IndexRabinKarp_string__loop1 (p : (List UInt8) × (List UInt8) × Int × Int × Int) (s : Int × Int) : (Int) ⊕ (Unit) := loopVal (internal_bytealg_IndexRabinKarp_string__loop1_step p) s
def internal_bytealg_IndexRabinKarp_string__loop1_ends (p : (List UInt8) × (List UInt8) × Int × Int × Int) (s : Int × Int) : Bool := loopEnds (internal_bytealg_IndexRabinKarp_string__loop1_step p) s
def internal_bytealg_IndexRabinKarp_string__loop1_F : LoopF := loopF internal_bytealg_IndexRabinKarp_string__loop1_step internal_bytealg_IndexRabinKarp_string__loop1_ext internal_bytealg_IndexRabinKarp_string__loop1_post
theorem internal_bytealg_IndexRabinKarp_string__loop1_hext : ∀ S p s fl, internal_bytealg_IndexRabinKarp_string__loop1_ext S = some (p, s, fl) → Norm S fl ((internal_bytealg_IndexRabinKarp_string__loop1_L p).tl s) ((internal_bytealg_IndexRabinKarp_string__loop1_L p).hl s) (internal_bytealg_IndexRabinKarp_string__loop1_L p).gl := by
  intro S p s fl h
  unfold internal_bytealg_IndexRabinKarp_string__loop1_ext at h
  (repeat' split at h) <;> first
    | (cases h; constructor <;> simp_all [internal_bytealg_IndexRabinKarp_string__loop1_L, keepT, keepH, rens, renH, PV.ren, Blk.ren, fOf, lget, nodup, natIn, lenEq, gtm, PV.unK])
    | cases h
theorem internal_bytealg_IndexRabinKarp_string__loop1_hpost : ∀ p r e S', (internal_bytealg_IndexRabinKarp_string__loop1_post p r).get = some (e, S') → e = (internal_bytealg_IndexRabinKarp_string__loop1_L p).ex r ∧ S' = LSt ((internal_bytealg_IndexRabinKarp_string__loop1_L p).otl r) ((internal_bytealg_IndexRabinKarp_string__loop1_L p).ohl r) ((internal_bytealg_IndexRabinKarp_string__loop1_L p).ogl r) := by
  intro p r e S' h
  unfold internal_bytealg_IndexRabinKarp_string__loop1_post at h
  cases r <;> (simp only [isL, DT.get, Option.some.injEq, Prod.mk.injEq] at h; exact ⟨h.1.symm, h.2.symm⟩)

def internal_bytealg_IndexRabinKarp_string__loops : Nat → Option LoopF := loopTab [(5, internal_bytealg_IndexRabinKarp_string__loop0_F), (11, internal_bytealg_IndexRabinKarp_string__loop1_F)]
set_option maxRecDepth 100000 in
theorem internal_bytealg_IndexRabinKarp_string__l1 : LoopOK Tryd.prog ⟨gam [(175, internal_bytealg_hashStr_string__c)], tab, 81, internal_bytealg_IndexRabinKarp_string__loops⟩ (lp Tryd.f156 1) :=
  loopOK_some (F := internal_bytealg_IndexRabinKarp_string__loop1_F) (by kernel_rfl) (loopF_ok (E := ⟨gam [(175, internal_bytealg_hashStr_string__c)], tab, 81, internal_bytealg_IndexRabinKarp_string__loops⟩) ⟨gam_cons internal_bytealg_hashStr_string__ok (gam_nil), tab_ok, by kernel_rfl⟩ (fuel := 100000) (loopsOK_list (l := []) (by kernel_rfl) trivial) (L := internal_bytealg_IndexRabinKarp_string__loop1_L) (fun p s => by unfold AgreeL; exact ⟨by kernel_rfl, by kernel_rfl⟩) (fun _ r h => by cases r <;> exact Ex.noConfusion h) internal_bytealg_IndexRabinKarp_string__loop1_hext internal_bytealg_IndexRabinKarp_string__loop1_hpost)
set_option maxRecDepth 100000 in
theorem internal_bytealg_IndexRabinKarp_string__l0 : LoopOK Tryd.prog ⟨gam [(175, internal_bytealg_hashStr_string__c)], tab, 81, internal_bytealg_IndexRabinKarp_string__loops⟩ (lp Tryd.f156 0) :=
  loopOK_some (F := internal_bytealg_IndexRabinKarp_string__loop0_F) (by kernel_rfl) (loopF_ok (E := ⟨gam [(175, internal_bytealg_hashStr_string__c)], tab, 81, internal_bytealg_IndexRabinKarp_string__loops⟩) ⟨gam_cons internal_bytealg_hashStr_string__ok (gam_nil), tab_ok, by kernel_rfl⟩ (fuel := 100000) (loopsOK_list (l := []) (by kernel_rfl) trivial) (L := internal_bytealg_IndexRabinKarp_string__loop0_L) (fun p s => by unfold AgreeL; exact ⟨by kernel_rfl, by kernel_rfl⟩) (fun _ _ h => Ex.noConfusion h) internal_bytealg_IndexRabinKarp_string__loop0_hext internal_bytealg_IndexRabinKarp_string__loop0_hpost)
/-- internal/bytealg.IndexRabinKarp[string] -/
def internal_bytealg_IndexRabinKarp_string__tree (a0 : (List UInt8)) (a1 : (List UInt8)) : DT (Int) :=
  .need ((internal_bytealg_hashStr_string__need a1)) (
  let x0 := internal_bytealg_hashStr_string_ a1;
  let x1 := ((List.length a1 : Nat) : Int);
  .need ((internal_bytealg_IndexRabinKarp_string__loop0_ends (a0, a1, x0.1, x0.2, x1) (0, 0))) (
  let x2 := internal_bytealg_IndexRabinKarp_string__loop0 (a0, a1, x0.1, x0.2, x1) (0, 0);
  let x3 := (x2 == x0.1);
  .ask x3
  (
   .need ((decide (0 ≤ x1) && decide (x1 ≤ ((List.length a0 : Nat) : Int)))) (
   let x4 := List.drop 0 (List.take (Int.toNat x1) a0);
   let x5 := (x4 == a1);
   .ask x5
   (
    .leaf 0)
   (
    .need ((internal_bytealg_IndexRabinKarp_string__loop1_ends (a0, a1, x0.1, x0.2, x1) (x2, x1))) (
    let x6 := internal_bytealg_IndexRabinKarp_string__loop1 (a0, a1, x0.1, x0.2, x1) (x2, x1);
    .ask ((isL x6))
    (
     .leaf ((leftD x6)))
    (
     .leaf (-1))))))
  (
   .need ((internal_bytealg_IndexRabinKarp_string__loop1_ends (a0, a1, x0.1, x0.2, x1) (x2, x1))) (
   let x4 := internal_bytealg_IndexRabinKarp_string__loop1 (a0, a1, x0.1, x0.2, x1) (x2, x1);
   .ask ((isL x4))
   (
    .leaf ((leftD x4)))
   (
    .leaf (-1))))))
def internal_bytealg_IndexRabinKarp_string_ (a0 : (List UInt8)) (a1 : (List UInt8)) : Int := (internal_bytealg_IndexRabinKarp_string__tree a0 a1).val
def internal_bytealg_IndexRabinKarp_string__need (a0 : (List UInt8)) (a1 : (List UInt8)) : Bool := (internal_bytealg_IndexRabinKarp_string__tree a0 a1).ok
def internal_bytealg_IndexRabinKarp_string__mk (p : Int) : Ret := ⟨.int .i64 p, []⟩
def internal_bytealg_IndexRabinKarp_string__c : Con := fun args => match args with
  | [.str a0, .str a1] => some (.need (internal_bytealg_IndexRabinKarp_string__need a0 a1) (.leaf (internal_bytealg_IndexRabinKarp_string__mk (internal_bytealg_IndexRabinKarp_string_ a0 a1))))
  | _ => none
set_option maxRecDepth 100000 in
theorem internal_bytealg_IndexRabinKarp_string__ok : FunOK Tryd.prog 156 internal_bytealg_IndexRabinKarp_string__c.fn := by
  refine con_ok (Γ := gam [(175, internal_bytealg_hashStr_string__c)]) (gam_cons internal_bytealg_hashStr_string__ok (gam_nil)) tab_ok (by kernel_rfl) Tryd.func156 (by kernel_rfl) (by kernel_rfl) Tryd.ntmps156 Tryd.results156 (loops := internal_bytealg_IndexRabinKarp_string__loops) (loopsOK_list (l := [lp Tryd.f156 0, lp Tryd.f156 1]) (by kernel_rfl) ⟨internal_bytealg_IndexRabinKarp_string__l0, ⟨internal_bytealg_IndexRabinKarp_string__l1, trivial⟩⟩) 100000 fun args t h => ?_
  unfold internal_bytealg_IndexRabinKarp_string__c at h
  split at h
  · rename_i a0 a1
    cases h
    exact ⟨rfl, agree_need (mk := internal_bytealg_IndexRabinKarp_string__mk) (t := internal_bytealg_IndexRabinKarp_string__tree a0 a1) (by unfold Agree; kernel_rfl)⟩
  · cases h

-- FAILED 140 internal/stringslite.Index: global

-- FAILED 118 strings.Index: no contract: internal/stringslite.Index 

-- FAILED 162 strings.Count: no contract: unicode/utf8.RuneCountInString 

-- FAILED 143 strings.genSplit: no contract: strings.explode 

-- FAILED 123 strings.Split: no contract: strings.genSplit 

/-- strings.Count -/
def strings_Count_k44_tree (a0 : (List UInt8)) : DT (Int) :=
  .skip (
  .skip (
  .skip (
  let x0 := ((Go.Lib.countByte a0 (Nat.toUInt8 (Int.toNat 44)) : Nat) : Int);
  .leaf x0)))
def strings_Count_k44 (a0 : (List UInt8)) : Int := (strings_Count_k44_tree a0).val
def strings_Count_k44_mk (p : Int) : Ret := ⟨.int .i64 p, []⟩
def strings_Count_k44_c : Con := fun args => match args with
  | [.str a0, .str a1] => bif decide (a1 = ([44] : List UInt8)) then (some (.leaf (strings_Count_k44_mk (strings_Count_k44 a0)))) else none
  | _ => none
set_option maxRecDepth 100000 in
theorem strings_Count_k44_ok : FunOK Tryd.prog 162 strings_Count_k44_c.fn := by
  refine con_ok (Γ := gam [(183, internal_bytealg_CountString_c)]) (gam_cons internal_bytealg_CountString_ok (gam_nil)) tab_ok (by kernel_rfl) Tryd.func162 (by kernel_rfl) (by kernel_rfl) Tryd.ntmps162 Tryd.results162 (loopsOK_none rfl _) 100000 fun args t h => ?_
  unfold strings_Count_k44_c at h
  split at h
  · rename_i a0 a1
    obtain ⟨hk1, h⟩ := bif_some h
    subst hk1
    cases h
    exact ⟨rfl, agree_tot (mk := strings_Count_k44_mk) (t := strings_Count_k44_tree a0) (by unfold Agree; kernel_rfl) (by kernel_rfl)⟩
  · cases h

/-- internal/stringslite.Index -/
def internal_stringslite_Index_k44_tree (a0 : (List UInt8)) : DT (Int) :=
  .skip (
  .skip (
  .skip (
  let x0 := ([44] == a0);
  .skip (
  .ask x0
  (
   .leaf 0)
  (
   .skip (
   .skip (
   let x1 := internal_stringslite_IndexByte a0 44;
   .leaf x1)))))))
def internal_stringslite_Index_k44 (a0 : (List UInt8)) : Int := (internal_stringslite_Index_k44_tree a0).val
def internal_stringslite_Index_k44_mk (p : Int) : Ret := ⟨.int .i64 p, []⟩
def internal_stringslite_Index_k44_c : Con := fun args => match args with
  | [.str a0, .str a1] => bif decide (a1 = ([44] : List UInt8)) then (some (.leaf (internal_stringslite_Index_k44_mk (internal_stringslite_Index_k44 a0)))) else none
  | _ => none
set_option maxRecDepth 100000 in
theorem internal_stringslite_Index_k44_ok : FunOK Tryd.prog 140 internal_stringslite_Index_k44_c.fn := by
  refine con_ok (Γ := gam [(153, internal_stringslite_IndexByte_c)]) (gam_cons internal_stringslite_IndexByte_ok (gam_nil)) tab_ok (by kernel_rfl) Tryd.func140 (by kernel_rfl) (by kernel_rfl) Tryd.ntmps140 Tryd.results140 (loopsOK_none rfl _) 100000 fun args t h => ?_
  unfold internal_stringslite_Index_k44_c at h
  split at h
  · rename_i a0 a1
    obtain ⟨hk1, h⟩ := bif_some h
    subst hk1
    cases h
    exact ⟨rfl, agree_tot (mk := internal_stringslite_Index_k44_mk) (t := internal_stringslite_Index_k44_tree a0) (by unfold Agree; kernel_rfl) (by kernel_rfl)⟩
  · cases h

/-- strings.Index -/
def strings_Index_k44_tree (a0 : (List UInt8)) : DT (Int) :=
  let x0 := internal_stringslite_Index_k44 a0;
  .leaf x0
def strings_Index_k44 (a0 : (List UInt8)) : Int := (strings_Index_k44_tree a0).val
def strings_Index_k44_mk (p : Int) : Ret := ⟨.int .i64 p, []⟩
def strings_Index_k44_c : Con := fun args => match args with
  | [.str a0, .str a1] => bif decide (a1 = ([44] : List UInt8)) then (some (.leaf (strings_Index_k44_mk (strings_Index_k44 a0)))) else none
  | _ => none
set_option maxRecDepth 100000 in
theorem strings_Index_k44_ok : FunOK Tryd.prog 118 strings_Index_k44_c.fn := by
  refine con_ok (Γ := gam [(140, internal_stringslite_Index_k44_c)]) (gam_cons internal_stringslite_Index_k44_ok (gam_nil)) tab_ok (by kernel_rfl) Tryd.func118 (by kernel_rfl) (by kernel_rfl) Tryd.ntmps118 Tryd.results118 (loopsOK_none rfl _) 100000 fun args t h => ?_
  unfold strings_Index_k44_c at h
  split at h
  · rename_i a0 a1
    obtain ⟨hk1, h⟩ := bif_some h
    subst hk1
    cases h
    exact ⟨rfl, agree_tot (mk := strings_Index_k44_mk) (t := strings_Index_k44_tree a0) (by unfold Agree; kernel_rfl) (by kernel_rfl)⟩
  · cases h

/-- a loop of strings_genSplit_k44_k0_m1 -/
def strings_genSplit_k44_k0_m1_loop0_step (p : Int × Int) (s : (List UInt8) × Int × List (List UInt8)) : Round ((List UInt8) × Int × List (List UInt8)) ((List UInt8) × Int × List (List UInt8)) :=
  let x0 := decide (s.2.1 < p.2);
  .ask x0
  (
   let x1 := strings_Index_k44 s.1;
   let x2 := decide (x1 < 0);
   .ask x2
   (
    .leaf (.inr (s.1, s.2.1, s.2.2), [0]))
   (
    let x3 := IntKind.wrap .i64 (x1 + p.1);
    .need ((decide (0 ≤ x3) && decide (x3 ≤ ((List.length s.1 : Nat) : Int)))) (
    let x4 := List.drop 0 (List.take (Int.toNat x3) s.1);
    .need ((decide (0 ≤ s.2.1) && decide (s.2.1 < ((List.length s.2.2 : Nat) : Int)))) (
    .need ((decide ((Int.toNat s.2.1) < List.length s.2.2))) (
    let x5 := List.set s.2.2 (Int.toNat s.2.1) x4;
    let x6 := IntKind.wrap .i64 (x1 + 1);
    .need ((decide (0 ≤ x6) && decide (x6 ≤ (((List.length s.1) : Nat) : Int)))) (
    let x7 := List.drop (Int.toNat x6) (List.take (List.length s.1) s.1);
    let x8 := IntKind.wrap .i64 (s.2.1 + 1);
    .leaf (.inl (x7, x8, x5), [0])))))))
  (
   .leaf (.inr (s.1, s.2.1, s.2.2), [0]))
def strings_genSplit_k44_k0_m1_loop0_L (p : Int × Int) : LoopS ((List UInt8) × Int × List (List UInt8)) ((List UInt8) × Int × List (List UInt8)) := { tl := fun s => [.str s.1, .str [44], .int .i64 p.1, .int .i64 p.2, .junk, .junk, .junk, .junk, .junk, .own 0, .int .i64 s.2.1], hl := fun s => [some (.typed 9 .str s.2.2)], ex := fun r => .exit 0, otl := fun r => [.str r.1, .junk, .junk, .junk, .junk, .junk, .junk, .junk, .junk, .own 0, .int .i64 r.2.1], ohl := fun r => [some (.typed 9 .str r.2.2)] }
def strings_genSplit_k44_k0_m1_loop0_ext : St → Option ((Int × Int) × ((List UInt8) × Int × List (List UInt8)) × List Nat) := fun S => match (S.tm 0).unK, (S.tm 1).unK, (S.tm 2).unK, (S.tm 3).unK, (S.tm 9).unK, (S.tm 10).unK with
  | .str q0, .str q1, .int .i64 q2, .int .i64 q3, .own i0, .int .i64 q4 => (match S.hp i0 with
    | some (.typed 9 .str q5) => (if q1 = ([44] : List UInt8) then some ((q2, q3), (q0, q4, q5), [i0]) else none)
    | _ => none)
  | _, _, _, _, _, _ => none
def strings_genSplit_k44_k0_m1_loop0_post (p : Int × Int) (r : (List UInt8) × Int × List (List UInt8)) : DT (Ex × St) := .leaf (.exit 0, LSt [.str r.1, .junk, .junk, .junk, .junk, .junk, .junk, .junk, .junk, .own 0, .int .i64 r.2.1] [some (.typed 9 .str r.2.2)])
def strings_genSplit_k44_k0_m1_loop0 (p : Int × Int) (s : (List UInt8) × Int × List (List UInt8)) : (List UInt8) × Int × List (List UInt8) := loopVal (strings_genSplit_k44_k0_m1_loop0_step p) s
def strings_genSplit_k44_k0_m1_loop0_ends (p : Int × Int) (s : (List UInt8) × Int × List (List UInt8)) : Bool := loopEnds (strings_genSplit_k44_k0_m1_loop0_step p) s
def strings_genSplit_k44_k0_m1_loop0_F : LoopF := loopF strings_genSplit_k44_k0_m1_loop0_step strings_genSplit_k44_k0_m1_loop0_ext strings_genSplit_k44_k0_m1_loop0_post
theorem strings_genSplit_k44_k0_m1_loop0_hext : ∀ S p s fl, strings_genSplit_k44_k0_m1_loop0_ext S = some (p, s, fl) → Norm S fl ((strings_genSplit_k44_k0_m1_loop0_L p).tl s) ((strings_genSplit_k44_k0_m1_loop0_L p).hl s) (strings_genSplit_k44_k0_m1_loop0_L p).gl := by
  intro S p s fl h
  unfold strings_genSplit_k44_k0_m1_loop0_ext at h
  (repeat' split at h) <;> first
    | (cases h; constructor <;> simp_all [strings_genSplit_k44_k0_m1_loop0_L, keepT, keepH, rens, renH, PV.ren, Blk.ren, fOf, lget, nodup, natIn, lenEq, gtm, PV.unK])
    | cases h
theorem strings_genSplit_k44_k0_m1_loop0_hpost : ∀ p r e S', (strings_genSplit_k44_k0_m1_loop0_post p r).get = some (e, S') → e = (strings_genSplit_k44_k0_m1_loop0_L p).ex r ∧ S' = LSt ((strings_genSplit_k44_k0_m1_loop0_L p).otl r) ((strings_genSplit_k44_k0_m1_loop0_L p).ohl r) ((strings_genSplit_k44_k0_m1_loop0_L p).ogl r) := by
  intro p r e S' h
  unfold strings_genSplit_k44_k0_m1_loop0_post at h
  simp only [DT.get, Option.some.injEq, Prod.mk.injEq] at h; exact ⟨h.1.symm, h.2.symm⟩

def strings_genSplit_k44_k0_m1_loops : Nat → Option LoopF := loopTab [(11, strings_genSplit_k44_k0_m1_loop0_F)]
set_option maxRecDepth 100000 in
theorem strings_genSplit_k44_k0_m1_l0 : LoopOK Tryd.prog ⟨gam [(162, strings_Count_k44_c), (118, strings_Index_k44_c)], tab, 66, strings_genSplit_k44_k0_m1_loops⟩ (lp Tryd.f143 0) :=
  loopOK_some (F := strings_genSplit_k44_k0_m1_loop0_F) (by kernel_rfl) (loopF_ok (E := ⟨gam [(162, strings_Count_k44_c), (118, strings_Index_k44_c)], tab, 66, strings_genSplit_k44_k0_m1_loops⟩) ⟨gam_cons strings_Count_k44_ok (gam_cons strings_Index_k44_ok (gam_nil)), tab_ok, by kernel_rfl⟩ (fuel := 100000) (loopsOK_list (l := []) (by kernel_rfl) trivial) (L := strings_genSplit_k44_k0_m1_loop0_L) (fun p s => by unfold AgreeL; exact ⟨by kernel_rfl, by kernel_rfl⟩) (fun _ _ h => Ex.noConfusion h) strings_genSplit_k44_k0_m1_loop0_hext strings_genSplit_k44_k0_m1_loop0_hpost)
/-- strings.genSplit -/
def strings_genSplit_k44_k0_m1_tree (a0 : (List UInt8)) : DT (List (List UInt8)) :=
  .skip (
  .skip (
  .skip (
  let x0 := strings_Count_k44 a0;
  let x1 := IntKind.wrap .i64 (x0 + 1);
  let x2 := ((List.length a0 : Nat) : Int);
  let x3 := IntKind.wrap .i64 (x2 + 1);
  let x4 := (bif decide (x3 < x1) then x3 else x1);
  .need ((decide (0 ≤ x4) && decide (x4 ≤ x4) && decide (16 * x4 ≤ 281474976710656) && decide (x4 ≤ 9223372036854775807))) (
  let x5 := List.replicate (Int.toNat x4) [];
  let x6 := IntKind.wrap .i64 (x4 - 1);
  .need ((strings_genSplit_k44_k0_m1_loop0_ends (0, x6) (a0, 0, x5))) (
  let x7 := strings_genSplit_k44_k0_m1_loop0 (0, x6) (a0, 0, x5);
  .need ((decide (0 ≤ x7.2.1) && decide (x7.2.1 < ((List.length x7.2.2 : Nat) : Int)))) (
  .need ((decide ((Int.toNat x7.2.1) < List.length x7.2.2))) (
  let x8 := List.set x7.2.2 (Int.toNat x7.2.1) x7.1;
  let x9 := IntKind.wrap .i64 (x7.2.1 + 1);
  .need ((decide (0 ≤ x9) && decide (x9 ≤ ((List.length x8 : Nat) : Int)))) (
  .leaf ((List.take ((Int.toNat x9) - 0) x8))))))))))
def strings_genSplit_k44_k0_m1 (a0 : (List UInt8)) : List (List UInt8) := (strings_genSplit_k44_k0_m1_tree a0).val
def strings_genSplit_k44_k0_m1_need (a0 : (List UInt8)) : Bool := (strings_genSplit_k44_k0_m1_tree a0).ok
def strings_genSplit_k44_k0_m1_mk (p : List (List UInt8)) : Ret := ⟨.own 0, [.typed 9 .str p]⟩
def strings_genSplit_k44_k0_m1_c : Con := fun args => match args with
  | [.str a0, .str a1, .int .i64 a2, .int .i64 a3] => bif decide (a1 = ([44] : List UInt8)) then (bif decide (a2 = (0 : Int)) then (bif decide (a3 = ((-1) : Int)) then (some (.need (strings_genSplit_k44_k0_m1_need a0) (.leaf (strings_genSplit_k44_k0_m1_mk (strings_genSplit_k44_k0_m1 a0))))) else none) else none) else none
  | _ => none
set_option maxRecDepth 100000 in
theorem strings_genSplit_k44_k0_m1_ok : FunOK Tryd.prog 143 strings_genSplit_k44_k0_m1_c.fn := by
  refine con_ok (Γ := gam [(162, strings_Count_k44_c), (118, strings_Index_k44_c)]) (gam_cons strings_Count_k44_ok (gam_cons strings_Index_k44_ok (gam_nil))) tab_ok (by kernel_rfl) Tryd.func143 (by kernel_rfl) (by kernel_rfl) Tryd.ntmps143 Tryd.results143 (loops := strings_genSplit_k44_k0_m1_loops) (loopsOK_list (l := [lp Tryd.f143 0]) (by kernel_rfl) ⟨strings_genSplit_k44_k0_m1_l0, trivial⟩) 100000 fun args t h => ?_
  unfold strings_genSplit_k44_k0_m1_c at h
  split at h
  · rename_i a0 a1 a2 a3
    obtain ⟨hk1, h⟩ := bif_some h
    obtain ⟨hk2, h⟩ := bif_some h
    obtain ⟨hk3, h⟩ := bif_some h
    subst hk1 hk2 hk3
    cases h
    exact ⟨rfl, agree_need (mk := strings_genSplit_k44_k0_m1_mk) (t := strings_genSplit_k44_k0_m1_tree a0) (by unfold Agree; kernel_rfl)⟩
  · cases h

/-- strings.Split -/
def strings_Split_k44_tree (a0 : (List UInt8)) : DT (List (List UInt8)) :=
  .need ((strings_genSplit_k44_k0_m1_need a0)) (
  let x0 := strings_genSplit_k44_k0_m1 a0;
  .leaf x0)
def strings_Split_k44 (a0 : (List UInt8)) : List (List UInt8) := (strings_Split_k44_tree a0).val
def strings_Split_k44_need (a0 : (List UInt8)) : Bool := (strings_Split_k44_tree a0).ok
def strings_Split_k44_mk (p : List (List UInt8)) : Ret := ⟨.own 0, [.typed 9 .str p]⟩
def strings_Split_k44_c : Con := fun args => match args with
  | [.str a0, .str a1] => bif decide (a1 = ([44] : List UInt8)) then (some (.need (strings_Split_k44_need a0) (.leaf (strings_Split_k44_mk (strings_Split_k44 a0))))) else none
  | _ => none
set_option maxRecDepth 100000 in
theorem strings_Split_k44_ok : FunOK Tryd.prog 123 strings_Split_k44_c.fn := by
  refine con_ok (Γ := gam [(143, strings_genSplit_k44_k0_m1_c)]) (gam_cons strings_genSplit_k44_k0_m1_ok (gam_nil)) tab_ok (by kernel_rfl) Tryd.func123 (by kernel_rfl) (by kernel_rfl) Tryd.ntmps123 Tryd.results123 (loopsOK_none rfl _) 100000 fun args t h => ?_
  unfold strings_Split_k44_c at h
  split at h
  · rename_i a0 a1
    obtain ⟨hk1, h⟩ := bif_some h
    subst hk1
    cases h
    exact ⟨rfl, agree_need (mk := strings_Split_k44_mk) (t := strings_Split_k44_tree a0) (by unfold Agree; kernel_rfl)⟩
  · cases h

/-- loop.example/g01284/impl.apart -/
def impl_apart_tree (a0 : (List UInt8)) : DT ((Unit) ⊕ (List (List UInt8) × Bool)) :=
  let x0 := (a0 == [110, 111, 110, 101]);
  .ask x0
  (
   .leaf (.inl ()))
  (
   .need ((strings_Split_k44_need a0)) (
   let x1 := strings_Split_k44 a0;
   let x2 := ((List.length x1 : Nat) : Int);
   let x3 := decide (x2 ≤ 256);
   .leaf (.inr (x1, x3))))
def impl_apart (a0 : (List UInt8)) : (Unit) ⊕ (List (List UInt8) × Bool) := (impl_apart_tree a0).val
def impl_apart_need (a0 : (List UInt8)) : Bool := (impl_apart_tree a0).ok
def impl_apart_mk0 (p : Unit) : Ret := ⟨.tup [.nils, .bool true], []⟩
def impl_apart_mk1 (p : List (List UInt8) × Bool) : Ret := ⟨.tup [.own 0, .bool p.2], [.typed 9 .str p.1]⟩
def impl_apart_mk : (Unit) ⊕ (List (List UInt8) × Bool) → Ret := fun v => match v with
  | (.inl p) => impl_apart_mk0 p
  | (.inr p) => impl_apart_mk1 p
def impl_apart_forms (v : (Unit) ⊕ (List (List UInt8) × Bool)) : DT Ret := .ask (isL v) (.leaf (impl_apart_mk0 (leftD v))) (.leaf (impl_apart_mk1 (rightD v)))
theorem impl_apart_forms_get : ∀ v, (impl_apart_forms v).get = some (impl_apart_mk v) := by
  intro v
  rcases v with v | v <;> rfl
def impl_apart_c : Con := fun args => match args with
  | [.str a0] => some (.need (impl_apart_need a0) (impl_apart_forms (impl_apart a0)))
  | _ => none
set_option maxRecDepth 100000 in
theorem impl_apart_ok : FunOK Tryd.prog 112 impl_apart_c.fn := by
  refine con_ok (Γ := gam [(123, strings_Split_k44_c)]) (gam_cons strings_Split_k44_ok (gam_nil)) tab_ok (by kernel_rfl) Tryd.func112 (by kernel_rfl) (by kernel_rfl) Tryd.ntmps112 Tryd.results112 (loopsOK_none rfl _) 100000 fun args t h => ?_
  unfold impl_apart_c at h
  split at h
  · rename_i a0
    cases h
    exact ⟨rfl, agree_forms (mk := impl_apart_mk) (t := impl_apart_tree a0) (by unfold Agree; kernel_rfl) (fun h => h) (impl_apart_forms_get _)⟩
  · cases h

/-- internal/strconv.lower -/
def internal_strconv_lower_tree (a0 : Int) : DT (Int) :=
  let x0 := IntKind.wrap .u8 (BitVec.ofInt (IntKind.bits .u8) a0 ||| BitVec.ofInt (IntKind.bits .u8) 32).toNat;
  .leaf x0
def internal_strconv_lower (a0 : Int) : Int := (internal_strconv_lower_tree a0).val
def internal_strconv_lower_mk (p : Int) : Ret := ⟨.int .u8 p, []⟩
def internal_strconv_lower_c : Con := fun args => match args with
  | [.int .u8 a0] => some (.leaf (internal_strconv_lower_mk (internal_strconv_lower a0)))
  | _ => none
set_option maxRecDepth 100000 in
theorem internal_strconv_lower_ok : FunOK Tryd.prog 168 internal_strconv_lower_c.fn := by
  refine con_ok (Γ := gam []) (gam_nil) tab_ok (by kernel_rfl) Tryd.func168 (by kernel_rfl) (by kernel_rfl) Tryd.ntmps168 Tryd.results168 (loopsOK_none rfl _) 100000 fun args t h => ?_
  unfold internal_strconv_lower_c at h
  split at h
  · rename_i a0
    cases h
    exact ⟨rfl, agree_tot (mk := internal_strconv_lower_mk) (t := internal_strconv_lower_tree a0) (by unfold Agree; kernel_rfl) (by kernel_rfl)⟩
  · cases h

/-- a loop of internal_strconv_underscoreOK -/
def internal_strconv_underscoreOK_loop0_step (p : (List UInt8) × Bool) (s : Int × Int) : Round (Int × Int) ((Unit) ⊕ (Int)) :=
  let x0 := ((List.length p.1 : Nat) : Int);
  let x1 := decide (s.2 < x0);
  .ask x1
  (
   .need ((decide (0 ≤ s.2) && decide (s.2 < ((List.length p.1 : Nat) : Int)))) (
   let x2 := ((List.getD (p.1 : List UInt8) (Int.toNat s.2) 0).toNat : Int);
   let x3 := decide (48 ≤ x2);
   .ask x3
   (
    .need ((decide (0 ≤ s.2) && decide (s.2 < ((List.length p.1 : Nat) : Int)))) (
    let x4 := ((List.getD (p.1 : List UInt8) (Int.toNat s.2) 0).toNat : Int);
    let x5 := decide (x4 ≤ 57);
    .ask x5
    (
     let x6 := IntKind.wrap .i64 (s.2 + 1);
     .leaf (.inl (48, x6), []))
    (
     .ask p.2
     (
      .need ((decide (0 ≤ s.2) && decide (s.2 < ((List.length p.1 : Nat) : Int)))) (
      let x6 := ((List.getD (p.1 : List UInt8) (Int.toNat s.2) 0).toNat : Int);
      let x7 := internal_strconv_lower x6;
      let x8 := decide (97 ≤ x7);
      .ask x8
      (
       .need ((decide (0 ≤ s.2) && decide (s.2 < ((List.length p.1 : Nat) : Int)))) (
       let x9 := ((List.getD (p.1 : List UInt8) (Int.toNat s.2) 0).toNat : Int);
       let x10 := internal_strconv_lower x9;
       let x11 := decide (x10 ≤ 102);
       .ask x11
       (
        let x12 := IntKind.wrap .i64 (s.2 + 1);
        .leaf (.inl (48, x12), []))
       (
        .need ((decide (0 ≤ s.2) && decide (s.2 < ((List.length p.1 : Nat) : Int)))) (
        let x12 := ((List.getD (p.1 : List UInt8) (Int.toNat s.2) 0).toNat : Int);
        let x13 := (x12 == 95);
        .ask x13
        (
         let x14 := (s.1 != 48);
         .ask x14
         (
          .leaf (.inr (.inl ()), []))
         (
          let x15 := IntKind.wrap .i64 (s.2 + 1);
          .leaf (.inl (95, x15), [])))
        (
         let x14 := (s.1 == 95);
         .ask x14
         (
          .leaf (.inr (.inl ()), []))
         (
          let x15 := IntKind.wrap .i64 (s.2 + 1);
          .leaf (.inl (33, x15), [])))))))
      (
       .need ((decide (0 ≤ s.2) && decide (s.2 < ((List.length p.1 : Nat) : Int)))) (
       let x9 := ((List.getD (p.1 : List UInt8) (Int.toNat s.2) 0).toNat : Int);
       let x10 := (x9 == 95);
       .ask x10
       (
        let x11 := (s.1 != 48);
        .ask x11
        (
         .leaf (.inr (.inl ()), []))
        (
         let x12 := IntKind.wrap .i64 (s.2 + 1);
         .leaf (.inl (95, x12), [])))
       (
        let x11 := (s.1 == 95);
        .ask x11
        (
         .leaf (.inr (.inl ()), []))
        (
         let x12 := IntKind.wrap .i64 (s.2 + 1);
         .leaf (.inl (33, x12), [])))))))
     (
      .need ((decide (0 ≤ s.2) && decide (s.2 < ((List.length p.1 : Nat) : Int)))) (
      let x6 := ((List.getD (p.1 : List UInt8) (Int.toNat s.2) 0).toNat : Int);
      let x7 := (x6 == 95);
      .ask x7
      (
       let x8 := (s.1 != 48);
       .ask x8
       (
        .leaf (.inr (.inl ()), []))
       (
        let x9 := IntKind.wrap .i64 (s.2 + 1);
        .leaf (.inl (95, x9), [])))
      (
       let x8 := (s.1 == 95);
       .ask x8
       (
        .leaf (.inr (.inl ()), []))
       (
        let x9 := IntKind.wrap .i64 (s.2 + 1);
        .leaf (.inl (33, x9), []))))))))
   (
    .ask p.2
    (
     .need ((decide (0 ≤ s.2) && decide (s.2 < ((List.length p.1 : Nat) : Int)))) (
     let x4 := ((List.getD (p.1 : List UInt8) (Int.toNat s.2) 0).toNat : Int);
     let x5 := internal_strconv_lower x4;
     let x6 := decide (97 ≤ x5);
     .ask x6
     (
      .need ((decide (0 ≤ s.2) && decide (s.2 < ((List.length p.1 : Nat) : Int)))) (
      let x7 := ((List.getD (p.1 : List UInt8) (Int.toNat s.2) 0).toNat : Int);
      let x8 := internal_strconv_lower x7;
      let x9 := decide (x8 ≤ 102);
      .ask x9
      (
       let x10 := IntKind.wrap .i64 (s.2 + 1);
       .leaf (.inl (48, x10), []))
      (
       .need ((decide (0 ≤ s.2) && decide (s.2 < ((List.length p.1 : Nat) : Int)))) (
       let x10 := ((List.getD (p.1 : List UInt8) (Int.toNat s.2) 0).toNat : Int);
       let x11 := (x10 == 95);
       .ask x11
       (
        let x12 := (s.1 != 48);
        .ask x12
        (
         .leaf (.inr (.inl ()), []))
        (
         let x13 := IntKind.wrap .i64 (s.2 + 1);
         .leaf (.inl (95, x13), [])))
       (
        let x12 := (s.1 == 95);
        .ask x12
        (
         .leaf (.inr (.inl ()), []))
        (
         let x13 := IntKind.wrap .i64 (s.2 + 1);
         .leaf (.inl (33, x13), [])))))))
     (
      .need ((decide (0 ≤ s.2) && decide (s.2 < ((List.length p.1 : Nat) : Int)))) (
      let x7 := ((List.getD (p.1 : List UInt8) (Int.toNat s.2) 0).toNat : Int);
      let x8 := (x7 == 95);
      .ask x8
      (
       let x9 := (s.1 != 48);
       .ask x9
       (
        .leaf (.inr (.inl ()), []))
       (
        let x10 := IntKind.wrap .i64 (s.2 + 1);
        .leaf (.inl (95, x10), [])))
      (
       let x9 := (s.1 == 95);
       .ask x9
       (
        .leaf (.inr (.inl ()), []))
       (
        let x10 := IntKind.wrap .i64 (s.2 + 1);
        .leaf (.inl (33, x10), [])))))))
    (
     .need ((decide (0 ≤ s.2) && decide (s.2 < ((List.length p.1 : Nat) : Int)))) (
     let x4 := ((List.getD (p.1 : List UInt8) (Int.toNat s.2) 0).toNat : Int);
     let x5 := (x4 == 95);
     .ask x5
     (
      let x6 := (s.1 != 48);
      .ask x6
      (
       .leaf (.inr (.inl ()), []))
      (
       let x7 := IntKind.wrap .i64 (s.2 + 1);
       .leaf (.inl (95, x7), [])))
     (
      let x6 := (s.1 == 95);
      .ask x6
      (
       .leaf (.inr (.inl ()), []))
      (
       let x7 := IntKind.wrap .i64 (s.2 + 1);
       .leaf (.inl (33, x7), []))))))))
  (
   .leaf (.inr (.inr s.1), []))
def internal_strconv_underscoreOK_loop0_L (p : (List UInt8) × Bool) : LoopS (Int × Int) ((Unit) ⊕ (Int)) := { tl := fun s => [.str p.1, .junk, .junk, .int .i32 s.1, .int .i64 s.2, .bool p.2], hl := fun s => [], ex := fun r => match r with | .inl r => .ret | .inr r => .exit 0, otl := fun r => match r with | .inl r => [.junk, .junk, .bool false] | .inr r => [.junk, .junk, .junk, .int .i32 r], ohl := fun r => match r with | .inl r => [] | .inr r => [] }
def internal_strconv_underscoreOK_loop0_ext : St → Option (((List UInt8) × Bool) × (Int × Int) × List Nat) := fun S => match (S.tm 0).unK, (S.tm 3).unK, (S.tm 4).unK, (S.tm 5).unK with
  | .str q0, .int .i32 q1, .int .i64 q2, .bool q3 => some ((q0, q3), (q1, q2), [])
  | _, _, _, _ => none
def internal_strconv_underscoreOK_loop0_post (p : (List UInt8) × Bool) (r : (Unit) ⊕ (Int)) : DT (Ex × St) := .ask (isL r) (.leaf (.ret, LSt [.junk, .junk, .bool false] [])) (.leaf (.exit 0, LSt [.junk, .junk, .junk, .int .i32 ((rightD r))] []))
def internal_strconv_underscoreOK_loop0 (p : (List UInt8) × Bool) (s : Int × Int) : (Unit) ⊕ (Int) := loopVal (internal_strconv_underscoreOK_loop0_step p) s
def internal_strconv_underscoreOK_loop0_ends (p : (List UInt8) × Bool) (s : Int × Int) : Bool := loopEnds (internal_strconv_underscoreOK_loop0_step p) s
def internal_strconv_underscoreOK_loop0_F : LoopF := loopF internal_strconv_underscoreOK_loop0_step internal_strconv_underscoreOK_loop0_ext internal_strconv_underscoreOK_loop0_post
theorem internal_strconv_underscoreOK_loop0_hext : ∀ S p s fl, internal_strconv_underscoreOK_loop0_ext S = some (p, s, fl) → Norm S fl ((internal_strconv_underscoreOK_loop0_L p).tl s) ((internal_strconv_underscoreOK_loop0_L p).hl s) (internal_strconv_underscoreOK_loop0_L p).gl := by
  intro S p s fl h
  unfold internal_strconv_underscoreOK_loop0_ext at h
  (repeat' split at h) <;> first
    | (cases h; constructor <;> simp_all [internal_strconv_underscoreOK_loop0_L, keepT, keepH, rens, renH, PV.ren, Blk.ren, fOf, lget, nodup, natIn, lenEq, gtm, PV.unK])
    | cases h
theorem internal_strconv_underscoreOK_loop0_hpost : ∀ p r e S', (internal_strconv_underscoreOK_loop0_post p r).get = some (e, S') → e = (internal_strconv_underscoreOK_loop0_L p).ex r ∧ S' = LSt ((internal_strconv_underscoreOK_loop0_L p).otl r) ((internal_strconv_underscoreOK_loop0_L p).ohl r) ((internal_strconv_underscoreOK_loop0_L p).ogl r) := by
  intro p r e S' h
  unfold internal_strconv_underscoreOK_loop0_post at h
  cases r <;> (simp only [isL, DT.get, Option.some.injEq, Prod.mk.injEq] at h; exact ⟨h.1.symm, h.2.symm⟩)

def internal_strconv_underscoreOK_loops : Nat → Option LoopF := loopTab [(10, internal_strconv_underscoreOK_loop0_F)]
set_option maxRecDepth 100000 in
theorem internal_strconv_underscoreOK_l0 : LoopOK Tryd.prog ⟨gam [(168, internal_strconv_lower_c)], tab, 94, internal_strconv_underscoreOK_loops⟩ (lp Tryd.f169 0) :=
  loopOK_some (F := internal_strconv_underscoreOK_loop0_F) (by kernel_rfl) (loopF_ok (E := ⟨gam [(168, internal_strconv_lower_c)], tab, 94, internal_strconv_underscoreOK_loops⟩) ⟨gam_cons internal_strconv_lower_ok (gam_nil), tab_ok, by kernel_rfl⟩ (fuel := 100000) (loopsOK_list (l := []) (by kernel_rfl) trivial) (L := internal_strconv_underscoreOK_loop0_L) (fun p s => by unfold AgreeL; exact ⟨by kernel_rfl, by kernel_rfl⟩) (fun _ r h => by cases r <;> exact Ex.noConfusion h) internal_strconv_underscoreOK_loop0_hext internal_strconv_underscoreOK_loop0_hpost)
/-- internal/strconv.underscoreOK -/
def internal_strconv_underscoreOK_tree (a0 : (List UInt8)) : DT (Bool) :=
  let x0 := ((List.length a0 : Nat) : Int);
  let x1 := decide (x0 ≥ 1);
  .ask x1
  (
   .need ((decide (0 ≤ 0) && decide (0 < ((List.length a0 : Nat) : Int)))) (
   let x2 := ((List.getD (a0 : List UInt8) 0 0).toNat : Int);
   let x3 := (x2 == 45);
   .ask x3
   (
    .need ((decide (0 ≤ 1) && decide (1 ≤ (((List.length a0) : Nat) : Int)))) (
    let x4 := List.drop 1 (List.take (List.length a0) a0);
    let x5 := ((List.length x4 : Nat) : Int);
    let x6 := decide (x5 ≥ 2);
    .ask x6
    (
     .need ((decide (0 ≤ 0) && decide (0 < ((List.length x4 : Nat) : Int)))) (
     let x7 := ((List.getD (x4 : List UInt8) 0 0).toNat : Int);
     let x8 := (x7 == 48);
     .ask x8
     (
      .need ((decide (0 ≤ 1) && decide (1 < ((List.length x4 : Nat) : Int)))) (
      let x9 := ((List.getD (x4 : List UInt8) 1 0).toNat : Int);
      let x10 := internal_strconv_lower x9;
      let x11 := (x10 == 98);
      .ask x11
      (
       .need ((decide (0 ≤ 1) && decide (1 < ((List.length x4 : Nat) : Int)))) (
       let x12 := ((List.getD (x4 : List UInt8) 1 0).toNat : Int);
       let x13 := internal_strconv_lower x12;
       let x14 := (x13 == 120);
       .need ((internal_strconv_underscoreOK_loop0_ends (x4, x14) (48, 2))) (
       let x15 := internal_strconv_underscoreOK_loop0 (x4, x14) (48, 2);
       .ask ((isL x15))
       (
        .leaf false)
       (
        let x16 := ((rightD x15) != 95);
        .leaf x16))))
      (
       .need ((decide (0 ≤ 1) && decide (1 < ((List.length x4 : Nat) : Int)))) (
       let x12 := ((List.getD (x4 : List UInt8) 1 0).toNat : Int);
       let x13 := internal_strconv_lower x12;
       let x14 := (x13 == 111);
       .ask x14
       (
        .need ((decide (0 ≤ 1) && decide (1 < ((List.length x4 : Nat) : Int)))) (
        let x15 := ((List.getD (x4 : List UInt8) 1 0).toNat : Int);
        let x16 := internal_strconv_lower x15;
        let x17 := (x16 == 120);
        .need ((internal_strconv_underscoreOK_loop0_ends (x4, x17) (48, 2))) (
        let x18 := internal_strconv_underscoreOK_loop0 (x4, x17) (48, 2);
        .ask ((isL x18))
        (
         .leaf false)
        (
         let x19 := ((rightD x18) != 95);
         .leaf x19))))
       (
        .need ((decide (0 ≤ 1) && decide (1 < ((List.length x4 : Nat) : Int)))) (
        let x15 := ((List.getD (x4 : List UInt8) 1 0).toNat : Int);
        let x16 := internal_strconv_lower x15;
        let x17 := (x16 == 120);
        .ask x17
        (
         .need ((decide (0 ≤ 1) && decide (1 < ((List.length x4 : Nat) : Int)))) (
         let x18 := ((List.getD (x4 : List UInt8) 1 0).toNat : Int);
         let x19 := internal_strconv_lower x18;
         let x20 := (x19 == 120);
         .need ((internal_strconv_underscoreOK_loop0_ends (x4, x20) (48, 2))) (
         let x21 := internal_strconv_underscoreOK_loop0 (x4, x20) (48, 2);
         .ask ((isL x21))
         (
          .leaf false)
         (
          let x22 := ((rightD x21) != 95);
          .leaf x22))))
        (
         .need ((internal_strconv_underscoreOK_loop0_ends (x4, false) (94, 0))) (
         let x18 := internal_strconv_underscoreOK_loop0 (x4, false) (94, 0);
         .ask ((isL x18))
         (
          .leaf false)
         (
          let x19 := ((rightD x18) != 95);
          .leaf x19)))))))))
     (
      .need ((internal_strconv_underscoreOK_loop0_ends (x4, false) (94, 0))) (
      let x9 := internal_strconv_underscoreOK_loop0 (x4, false) (94, 0);
      .ask ((isL x9))
      (
       .leaf false)
      (
       let x10 := ((rightD x9) != 95);
       .leaf x10)))))
    (
     .need ((internal_strconv_underscoreOK_loop0_ends (x4, false) (94, 0))) (
     let x7 := internal_strconv_underscoreOK_loop0 (x4, false) (94, 0);
     .ask ((isL x7))
     (
      .leaf false)
     (
      let x8 := ((rightD x7) != 95);
      .leaf x8)))))
   (
    .need ((decide (0 ≤ 0) && decide (0 < ((List.length a0 : Nat) : Int)))) (
    let x4 := ((List.getD (a0 : List UInt8) 0 0).toNat : Int);
    let x5 := (x4 == 43);
    .ask x5
    (
     .need ((decide (0 ≤ 1) && decide (1 ≤ (((List.length a0) : Nat) : Int)))) (
     let x6 := List.drop 1 (List.take (List.length a0) a0);
     let x7 := ((List.length x6 : Nat) : Int);
     let x8 := decide (x7 ≥ 2);
     .ask x8
     (
      .need ((decide (0 ≤ 0) && decide (0 < ((List.length x6 : Nat) : Int)))) (
      let x9 := ((List.getD (x6 : List UInt8) 0 0).toNat : Int);
      let x10 := (x9 == 48);
      .ask x10
      (
       .need ((decide (0 ≤ 1) && decide (1 < ((List.length x6 : Nat) : Int)))) (
       let x11 := ((List.getD (x6 : List UInt8) 1 0).toNat : Int);
       let x12 := internal_strconv_lower x11;
       let x13 := (x12 == 98);
       .ask x13
       (
        .need ((decide (0 ≤ 1) && decide (1 < ((List.length x6 : Nat) : Int)))) (
        let x14 := ((List.getD (x6 : List UInt8) 1 0).toNat : Int);
        let x15 := internal_strconv_lower x14;
        let x16 := (x15 == 120);
        .need ((internal_strconv_underscoreOK_loop0_ends (x6, x16) (48, 2))) (
        let x17 := internal_strconv_underscoreOK_loop0 (x6, x16) (48, 2);
        .ask ((isL x17))
        (
         .leaf false)
        (
         let x18 := ((rightD x17) != 95);
         .leaf x18))))
       (
        .need ((decide (0 ≤ 1) && decide (1 < ((List.length x6 : Nat) : Int)))) (
        let x14 := ((List.getD (x6 : List UInt8) 1 0).toNat : Int);
        let x15 := internal_strconv_lower x14;
        let x16 := (x15 == 111);
        .ask x16
        (
         .need ((decide (0 ≤ 1) && decide (1 < ((List.length x6 : Nat) : Int)))) (
         let x17 := ((List.getD (x6 : List UInt8) 1 0).toNat : Int);
         let x18 := internal_strconv_lower x17;
         let x19 := (x18 == 120);
         .need ((internal_strconv_underscoreOK_loop0_ends (x6, x19) (48, 2))) (
         let x20 := internal_strconv_underscoreOK_loop0 (x6, x19) (48, 2);
         .ask ((isL x20))
         (
          .leaf false)
         (
          let x21 := ((rightD x20) != 95);
          .leaf x21))))
        (
         .need ((decide (0 ≤ 1) && decide (1 < ((List.length x6 : Nat) : Int)))) (
         let x17 := ((List.getD (x6 : List UInt8) 1 0).toNat : Int);
         let x18 := internal_strconv_lower x17;
         let x19 := (x18 == 120);
         .ask x19
         (
          .need ((decide (0 ≤ 1) && decide (1 < ((List.length x6 : Nat) : Int)))) (
          let x20 := ((List.getD (x6 : List UInt8) 1 0).toNat : Int);
          let x21 := internal_strconv_lower x20;
          let x22 := (x21 == 120);
          .need ((internal_strconv_underscoreOK_loop0_ends (x6, x22) (48, 2))) (
          let x23 := internal_strconv_underscoreOK_loop0 (x6, x22) (48, 2);
          .ask ((isL x23))
          (
           .leaf false)
          (
           let x24 := ((rightD x23) != 95);
           .leaf x24))))
         (
          .need ((internal_strconv_underscoreOK_loop0_ends (x6, false) (94, 0))) (
          let x20 := internal_strconv_underscoreOK_loop0 (x6, false) (94, 0);
          .ask ((isL x20))
          (
           .leaf false)
          (
           let x21 := ((rightD x20) != 95);
           .leaf x21)))))))))
      (
       .need ((internal_strconv_underscoreOK_loop0_ends (x6, false) (94, 0))) (
       let x11 := internal_strconv_underscoreOK_loop0 (x6, false) (94, 0);
       .ask ((isL x11))
       (
        .leaf false)
       (
        let x12 := ((rightD x11) != 95);
        .leaf x12)))))
     (
      .need ((internal_strconv_underscoreOK_loop0_ends (x6, false) (94, 0))) (
      let x9 := internal_strconv_underscoreOK_loop0 (x6, false) (94, 0);
      .ask ((isL x9))
      (
       .leaf false)
      (
       let x10 := ((rightD x9) != 95);
       .leaf x10)))))
    (
     let x6 := ((List.length a0 : Nat) : Int);
     let x7 := decide (x6 ≥ 2);
     .ask x7
     (
      .need ((decide (0 ≤ 0) && decide (0 < ((List.length a0 : Nat) : Int)))) (
      let x8 := ((List.getD (a0 : List UInt8) 0 0).toNat : Int);
      let x9 := (x8 == 48);
      .ask x9
      (
       .need ((decide (0 ≤ 1) && decide (1 < ((List.length a0 : Nat) : Int)))) (
       let x10 := ((List.getD (a0 : List UInt8) 1 0).toNat : Int);
       let x11 := internal_strconv_lower x10;
       let x12 := (x11 == 98);
       .ask x12
       (
        .need ((decide (0 ≤ 1) && decide (1 < ((List.length a0 : Nat) : Int)))) (
        let x13 := ((List.getD (a0 : List UInt8) 1 0).toNat : Int);
        let x14 := internal_strconv_lower x13;
        let x15 := (x14 == 120);
        .need ((internal_strconv_underscoreOK_loop0_ends (a0, x15) (48, 2))) (
        let x16 := internal_strconv_underscoreOK_loop0 (a0, x15) (48, 2);
        .ask ((isL x16))
        (
         .leaf false)
        (
         let x17 := ((rightD x16) != 95);
         .leaf x17))))
       (
        .need ((decide (0 ≤ 1) && decide (1 < ((List.length a0 : Nat) : Int)))) (
        let x13 := ((List.getD (a0 : List UInt8) 1 0).toNat : Int);
        let x14 := internal_strconv_lower x13;
        let x15 := (x14 == 111);
        .ask x15
        (
         .need ((decide (0 ≤ 1) && decide (1 < ((List.length a0 : Nat) : Int)))) (
         let x16 := ((List.getD (a0 : List UInt8) 1 0).toNat : Int);
         let x17 := internal_strconv_lower x16;
         let x18 := (x17 == 120);
         .need ((internal_strconv_underscoreOK_loop0_ends (a0, x18) (48, 2))) (
         let x19 := internal_strconv_underscoreOK_loop0 (a0, x18) (48, 2);
         .ask ((isL x19))
         (
          .leaf false)
         (
          let x20 := ((rightD x19) != 95);
          .leaf x20))))
        (
         .need ((decide (0 ≤ 1) && decide (1 < ((List.length a0 : Nat) : Int)))) (
         let x16 := ((List.getD (a0 : List UInt8) 1 0).toNat : Int);
         let x17 := internal_strconv_lower x16;
         let x18 := (x17 == 120);
         .ask x18
         (
          .need ((decide (0 ≤ 1) && decide (1 < ((List.length a0 : Nat) : Int)))) (
          let x19 := ((List.getD (a0 : List UInt8) 1 0).toNat : Int);
          let x20 := internal_strconv_lower x19;
          let x21 := (x20 == 120);
          .need ((internal_strconv_underscoreOK_loop0_ends (a0, x21) (48, 2))) (
          let x22 := internal_strconv_underscoreOK_loop0 (a0, x21) (48, 2);
          .ask ((isL x22))
          (
           .leaf false)
          (
           let x23 := ((rightD x22) != 95);
           .leaf x23))))
         (
          .need ((internal_strconv_underscoreOK_loop0_ends (a0, false) (94, 0))) (
          let x19 := internal_strconv_underscoreOK_loop0 (a0, false) (94, 0);
          .ask ((isL x19))
          (
           .leaf false)
          (
           let x20 := ((rightD x19) != 95);
           .leaf x20)))))))))
      (
       .need ((internal_strconv_underscoreOK_loop0_ends (a0, false) (94, 0))) (
       let x10 := internal_strconv_underscoreOK_loop0 (a0, false) (94, 0);
       .ask ((isL x10))
       (
        .leaf false)
       (
        let x11 := ((rightD x10) != 95);
        .leaf x11)))))
     (
      .need ((internal_strconv_underscoreOK_loop0_ends (a0, false) (94, 0))) (
      let x8 := internal_strconv_underscoreOK_loop0 (a0, false) (94, 0);
      .ask ((isL x8))
      (
       .leaf false)
      (
       let x9 := ((rightD x8) != 95);
       .leaf x9))))))))
  (
   let x2 := ((List.length a0 : Nat) : Int);
   let x3 := decide (x2 ≥ 2);
   .ask x3
   (
    .need ((decide (0 ≤ 0) && decide (0 < ((List.length a0 : Nat) : Int)))) (
    let x4 := ((List.getD (a0 : List UInt8) 0 0).toNat : Int);
    let x5 := (x4 == 48);
    .ask x5
    (
     .need ((decide (0 ≤ 1) && decide (1 < ((List.length a0 : Nat) : Int)))) (
     let x6 := ((List.getD (a0 : List UInt8) 1 0).toNat : Int);
     let x7 := internal_strconv_lower x6;
     let x8 := (x7 == 98);
     .ask x8
     (
      .need ((decide (0 ≤ 1) && decide (1 < ((List.length a0 : Nat) : Int)))) (
      let x9 := ((List.getD (a0 : List UInt8) 1 0).toNat : Int);
      let x10 := internal_strconv_lower x9;
      let x11 := (x10 == 120);
      .need ((internal_strconv_underscoreOK_loop0_ends (a0, x11) (48, 2))) (
      let x12 := internal_strconv_underscoreOK_loop0 (a0, x11) (48, 2);
      .ask ((isL x12))
      (
       .leaf false)
      (
       let x13 := ((rightD x12) != 95);
       .leaf x13))))
     (
      .need ((decide (0 ≤ 1) && decide (1 < ((List.length a0 : Nat) : Int)))) (
      let x9 := ((List.getD (a0 : List UInt8) 1 0).toNat : Int);
      let x10 := internal_strconv_lower x9;
      let x11 := (x10 == 111);
      .ask x11
      (
       .need ((decide (0 ≤ 1) && decide (1 < ((List.length a0 : Nat) : Int)))) (
       let x12 := ((List.getD (a0 : List UInt8) 1 0).toNat : Int);
       let x13 := internal_strconv_lower x12;
       let x14 := (x13 == 120);
       .need ((internal_strconv_underscoreOK_loop0_ends (a0, x14) (48, 2))) (
       let x15 := internal_strconv_underscoreOK_loop0 (a0, x14) (48, 2);
       .ask ((isL x15))
       (
        .leaf false)
       (
        let x16 := ((rightD x15) != 95);
        .leaf x16))))
      (
       .need ((decide (0 ≤ 1) && decide (1 < ((List.length a0 : Nat) : Int)))) (
       let x12 := ((List.getD (a0 : List UInt8) 1 0).toNat : Int);
       let x13 := internal_strconv_lower x12;
       let x14 := (x13 == 120);
       .ask x14
       (
        .need ((decide (0 ≤ 1) && decide (1 < ((List.length a0 : Nat) : Int)))) (
        let x15 := ((List.getD (a0 : List UInt8) 1 0).toNat : Int);
        let x16 := internal_strconv_lower x15;
        let x17 := (x16 == 120);
        .need ((internal_strconv_underscoreOK_loop0_ends (a0, x17) (48, 2))) (
        let x18 := internal_strconv_underscoreOK_loop0 (a0, x17) (48, 2);
        .ask ((isL x18))
        (
         .leaf false)
        (
         let x19 := ((rightD x18) != 95);
         .leaf x19))))
       (
        .need ((internal_strconv_underscoreOK_loop0_ends (a0, false) (94, 0))) (
        let x15 := internal_strconv_underscoreOK_loop0 (a0, false) (94, 0);
        .ask ((isL x15))
        (
         .leaf false)
        (
         let x16 := ((rightD x15) != 95);
         .leaf x16)))))))))
    (
     .need ((internal_strconv_underscoreOK_loop0_ends (a0, false) (94, 0))) (
     let x6 := internal_strconv_underscoreOK_loop0 (a0, false) (94, 0);
     .ask ((isL x6))
     (
      .leaf false)
     (
      let x7 := ((rightD x6) != 95);
      .leaf x7)))))
   (
    .need ((internal_strconv_underscoreOK_loop0_ends (a0, false) (94, 0))) (
    let x4 := internal_strconv_underscoreOK_loop0 (a0, false) (94, 0);
    .ask ((isL x4))
    (
     .leaf false)
    (
     let x5 := ((rightD x4) != 95);
     .leaf x5))))
def internal_strconv_underscoreOK (a0 : (List UInt8)) : Bool := (internal_strconv_underscoreOK_tree a0).val
def internal_strconv_underscoreOK_need (a0 : (List UInt8)) : Bool := (internal_strconv_underscoreOK_tree a0).ok
def internal_strconv_underscoreOK_mk (p : Bool) : Ret := ⟨.bool p, []⟩
def internal_strconv_underscoreOK_c : Con := fun args => match args with
  | [.str a0] => some (.need (internal_strconv_underscoreOK_need a0) (.leaf (internal_strconv_underscoreOK_mk (internal_strconv_underscoreOK a0))))
  | _ => none
set_option maxRecDepth 100000 in
theorem internal_strconv_underscoreOK_ok : FunOK Tryd.prog 169 internal_strconv_underscoreOK_c.fn := by
  refine con_ok (Γ := gam [(168, internal_strconv_lower_c)]) (gam_cons internal_strconv_lower_ok (gam_nil)) tab_ok (by kernel_rfl) Tryd.func169 (by kernel_rfl) (by kernel_rfl) Tryd.ntmps169 Tryd.results169 (loops := internal_strconv_underscoreOK_loops) (loopsOK_list (l := [lp Tryd.f169 0]) (by kernel_rfl) ⟨internal_strconv_underscoreOK_l0, trivial⟩) 100000 fun args t h => ?_
  unfold internal_strconv_underscoreOK_c at h
  split at h
  · rename_i a0
    cases h
    exact ⟨rfl, agree_need (mk := internal_strconv_underscoreOK_mk) (t := internal_strconv_underscoreOK_tree a0) (by unfold Agree; kernel_rfl)⟩
  · cases h

-- FAILED 151 internal/strconv.ParseUint: operation

-- FAILED 186 internal/stringslite.Clone: builtin

-- FAILED 170 strconv.syntaxError: no contract: internal/stringslite.Clone 

-- FAILED 171 strconv.rangeError: no contract: internal/stringslite.Clone 

-- FAILED 192 internal/strconv.Itoa: no contract: internal/strconv.FormatInt 

-- FAILED 188 strconv.Itoa: no contract: internal/strconv.Itoa 

-- FAILED 187 errors.New: operation

-- FAILED 172 strconv.baseError: no contract: internal/stringslite.Clone 

-- FAILED 173 strconv.bitSizeError: no contract: internal/stringslite.Clone 

-- FAILED 152 strconv.toError: param type 118

-- FAILED 138 strconv.ParseUint: no contract: internal/strconv.ParseUint 

/-- a loop of impl_ReadNumbers -/
def impl_ReadNumbers_loop0_step (p : Bool × Int × List (List UInt8)) (s : Int × List Nat) : Round (Int × List Nat) ((Unit) ⊕ (List Nat)) :=
  let x0 := decide (s.1 < p.2.1);
  .ask x0
  (
   .need ((decide (0 ≤ s.1) && decide (s.1 < ((List.length p.2.2 : Nat) : Int)))) (
   .need ((decide ((Int.toNat s.1) < List.length p.2.2))) (
   let x1 := List.getD p.2.2 (Int.toNat s.1) default;
   .need ((decide (List.length x1 ≤ 281474976710656) && impl_digits_need (canon .f32 (valP (parseS x1))))) (
   let x2 := readD x1;
   .ask (!p.1)
   (
    .leaf (.inr (.inl ()), []))
   (
    .ask (!x2.2)
    (
     .leaf (.inr (.inl ()), []))
    (
     .need ((decide ((List.length s.2 + List.length [x2.1]) * 4 ≤ 140737488355328) && decide (List.length s.2 + List.length [x2.1] ≤ 9223372036854775807))) (
     let x3 := s.2 ++ [x2.1];
     let x4 := IntKind.wrap .i64 (s.1 + 1);
     .leaf (.inl (x4, x3), [162, 1]))))))))
  (
   .leaf (.inr (.inr s.2), [0]))
def impl_ReadNumbers_loop0_L (p : Bool × Int × List (List UInt8)) : LoopS (Int × List Nat) ((Unit) ⊕ (List Nat)) := { tl := fun s => [.junk, .junk, .junk, .junk, .junk, .bool p.1, .own 0, .junk, .junk, .junk, .junk, .junk, .junk, .junk, .junk, .junk, .junk, .own 1, .int .i64 p.2.1, .int .i64 s.1], hl := fun s => [some (.typed 22 (.flt .f32) s.2), some (.typed 9 .str p.2.2)], ex := fun r => match r with | .inl r => .ret | .inr r => .exit 0, otl := fun r => match r with | .inl r => [.junk, .junk, .nils, .bool false] | .inr r => [.junk, .junk, .junk, .junk, .junk, .bool p.1, .own 0], ohl := fun r => match r with | .inl r => [] | .inr r => [some (.typed 22 (.flt .f32) r)] }
def impl_ReadNumbers_loop0_ext : St → Option ((Bool × Int × List (List UInt8)) × (Int × List Nat) × List Nat) := fun S => match (S.tm 5).unK, (S.tm 6).unK, (S.tm 17).unK, (S.tm 18).unK, (S.tm 19).unK with
  | .bool q0, .own i0, .own i1, .int .i64 q1, .int .i64 q2 => (match S.hp i0 with
    | some (.typed 22 (.flt .f32) q3) => (match S.hp i1 with
    | some (.typed 9 .str q4) => (if nodup [i0, i1] = true then some ((q0, q1, q4), (q2, q3), [i0, i1]) else none)
    | _ => none)
    | _ => none)
  | _, _, _, _, _ => none
def impl_ReadNumbers_loop0_post (p : Bool × Int × List (List UInt8)) (r : (Unit) ⊕ (List Nat)) : DT (Ex × St) := .ask (isL r) (.leaf (.ret, LSt [.junk, .junk, .nils, .bool false] [])) (.leaf (.exit 0, LSt [.junk, .junk, .junk, .junk, .junk, .bool p.1, .own 0] [some (.typed 22 (.flt .f32) ((rightD r)))]))
def impl_ReadNumbers_loop0 (p : Bool × Int × List (List UInt8)) (s : Int × List Nat) : (Unit) ⊕ (List Nat) := loopVal (impl_ReadNumbers_loop0_step p) s
def impl_ReadNumbers_loop0_ends (p : Bool × Int × List (List UInt8)) (s : Int × List Nat) : Bool := loopEnds (impl_ReadNumbers_loop0_step p) s
def impl_ReadNumbers_loop0_F : LoopF := loopF impl_ReadNumbers_loop0_step impl_ReadNumbers_loop0_ext impl_ReadNumbers_loop0_post
theorem impl_ReadNumbers_loop0_hext : ∀ S p s fl, impl_ReadNumbers_loop0_ext S = some (p, s, fl) → Norm S fl ((impl_ReadNumbers_loop0_L p).tl s) ((impl_ReadNumbers_loop0_L p).hl s) (impl_ReadNumbers_loop0_L p).gl := by
  intro S p s fl h
  unfold impl_ReadNumbers_loop0_ext at h
  (repeat' split at h) <;> first
    | (cases h; constructor <;> simp_all [impl_ReadNumbers_loop0_L, keepT, keepH, rens, renH, PV.ren, Blk.ren, fOf, lget, nodup, natIn, lenEq, gtm, PV.unK])
    | cases h
theorem impl_ReadNumbers_loop0_hpost : ∀ p r e S', (impl_ReadNumbers_loop0_post p r).get = some (e, S') → e = (impl_ReadNumbers_loop0_L p).ex r ∧ S' = LSt ((impl_ReadNumbers_loop0_L p).otl r) ((impl_ReadNumbers_loop0_L p).ohl r) ((impl_ReadNumbers_loop0_L p).ogl r) := by
  intro p r e S' h
  unfold impl_ReadNumbers_loop0_post at h
  cases r <;> (simp only [isL, DT.get, Option.some.injEq, Prod.mk.injEq] at h; exact ⟨h.1.symm, h.2.symm⟩)

def impl_ReadNumbers_loops : Nat → Option LoopF := loopTab [(4, impl_ReadNumbers_loop0_F)]
set_option maxRecDepth 100000 in
theorem impl_ReadNumbers_l0 : LoopOK Tryd.prog ⟨gam [(112, impl_apart_c), (113, impl_readDigits_c)], tab, 42, impl_ReadNumbers_loops⟩ (lp Tryd.f74 0) :=
  loopOK_some (F := impl_ReadNumbers_loop0_F) (by kernel_rfl) (loopF_ok (E := ⟨gam [(112, impl_apart_c), (113, impl_readDigits_c)], tab, 42, impl_ReadNumbers_loops⟩) ⟨gam_cons impl_apart_ok (gam_cons impl_readDigits_ok (gam_nil)), tab_ok, by kernel_rfl⟩ (fuel := 100000) (loopsOK_list (l := []) (by kernel_rfl) trivial) (L := impl_ReadNumbers_loop0_L) (fun p s => by unfold AgreeL; exact ⟨by kernel_rfl, by kernel_rfl⟩) (fun _ r h => by cases r <;> exact Ex.noConfusion h) impl_ReadNumbers_loop0_hext impl_ReadNumbers_loop0_hpost)
/-- loop.example/g01284/impl.ReadNumbers -/
def impl_ReadNumbers_tree (a0 : (List UInt8)) : DT ((List Nat) ⊕ (Unit)) :=
  .need ((impl_apart_need a0)) (
  let x0 := impl_apart a0;
  .ask ((isL x0))
  (
   .skip (
   .skip (
   .leaf (.inl []))))
  (
   let x1 := ((List.length (rightD x0).1 : Nat) : Int);
   .need ((impl_ReadNumbers_loop0_ends ((rightD x0).2, x1, (rightD x0).1) (0, []))) (
   let x2 := impl_ReadNumbers_loop0 ((rightD x0).2, x1, (rightD x0).1) (0, []);
   .ask ((isL x2))
   (
    .leaf (.inr ()))
   (
    let x3 := (!(rightD x0).2);
    .ask x3
    (
     .leaf (.inr ()))
    (
     .leaf (.inl ((rightD x2))))))))
def impl_ReadNumbers (a0 : (List UInt8)) : (List Nat) ⊕ (Unit) := (impl_ReadNumbers_tree a0).val
def impl_ReadNumbers_need (a0 : (List UInt8)) : Bool := (impl_ReadNumbers_tree a0).ok
def impl_ReadNumbers_mk0 (p : List Nat) : Ret := ⟨.tup [.own 0, .bool true], [.typed 22 (.flt .f32) p]⟩
def impl_ReadNumbers_mk1 (p : Unit) : Ret := ⟨.tup [.nils, .bool false], []⟩
def impl_ReadNumbers_mk : (List Nat) ⊕ (Unit) → Ret := fun v => match v with
  | (.inl p) => impl_ReadNumbers_mk0 p
  | (.inr p) => impl_ReadNumbers_mk1 p
def impl_ReadNumbers_forms (v : (List Nat) ⊕ (Unit)) : DT Ret := .ask (isL v) (.leaf (impl_ReadNumbers_mk0 (leftD v))) (.leaf (impl_ReadNumbers_mk1 (rightD v)))
theorem impl_ReadNumbers_forms_get : ∀ v, (impl_ReadNumbers_forms v).get = some (impl_ReadNumbers_mk v) := by
  intro v
  rcases v with v | v <;> rfl
def impl_ReadNumbers_c : Con := fun args => match args with
  | [.str a0] => some (.need (impl_ReadNumbers_need a0) (impl_ReadNumbers_forms (impl_ReadNumbers a0)))
  | _ => none
set_option maxRecDepth 100000 in
theorem impl_ReadNumbers_ok : FunOK Tryd.prog 74 impl_ReadNumbers_c.fn := by
  refine con_ok (Γ := gam [(112, impl_apart_c), (113, impl_readDigits_c)]) (gam_cons impl_apart_ok (gam_cons impl_readDigits_ok (gam_nil))) tab_ok (by kernel_rfl) Tryd.func74 (by kernel_rfl) (by kernel_rfl) Tryd.ntmps74 Tryd.results74 (loops := impl_ReadNumbers_loops) (loopsOK_list (l := [lp Tryd.f74 0]) (by kernel_rfl) ⟨impl_ReadNumbers_l0, trivial⟩) 100000 fun args t h => ?_
  unfold impl_ReadNumbers_c at h
  split at h
  · rename_i a0
    cases h
    exact ⟨rfl, agree_forms (mk := impl_ReadNumbers_mk) (t := impl_ReadNumbers_tree a0) (by unfold Agree; kernel_rfl) (fun h => h) (impl_ReadNumbers_forms_get _)⟩
  · cases h

/-- math.IsNaN -/
def math_IsNaN_tree (a0 : Nat) : DT (Bool) :=
  let x0 := fne .f64 a0 a0;
  .leaf x0
def math_IsNaN (a0 : Nat) : Bool := (math_IsNaN_tree a0).val
def math_IsNaN_mk (p : Bool) : Ret := ⟨.bool p, []⟩
def math_IsNaN_c : Con := fun args => match args with
  | [.flt .f64 a0] => some (.leaf (math_IsNaN_mk (math_IsNaN a0)))
  | _ => none
set_option maxRecDepth 100000 in
theorem math_IsNaN_ok : FunOK Tryd.prog 148 math_IsNaN_c.fn := by
  refine con_ok (Γ := gam []) (gam_nil) tab_ok (by kernel_rfl) Tryd.func148 (by kernel_rfl) (by kernel_rfl) Tryd.ntmps148 Tryd.results148 (loopsOK_none rfl _) 100000 fun args t h => ?_
  unfold math_IsNaN_c at h
  split at h
  · rename_i a0
    cases h
    exact ⟨rfl, agree_tot (mk := math_IsNaN_mk) (t := math_IsNaN_tree a0) (by unfold Agree; kernel_rfl) (by kernel_rfl)⟩
  · cases h

/-- math.Abs -/
def math_Abs_tree (a0 : Nat) : DT (Nat) :=
  .ask ((isNaN .f64 a0))
  (
   .leaf 9221120237041090560)
  (
   let x0 := IntKind.wrap .u64 (BitVec.ofInt (IntKind.bits .u64) ((a0 : Nat) : Int) &&& ~~~ BitVec.ofInt (IntKind.bits .u64) 9223372036854775808).toNat;
   let x1 := canon .f64 (Int.toNat x0);
   .leaf x1)
def math_Abs (a0 : Nat) : Nat := (math_Abs_tree a0).val
def math_Abs_mk (p : Nat) : Ret := ⟨.flt .f64 p, []⟩
def math_Abs_c : Con := fun args => match args with
  | [.flt .f64 a0] => some (.leaf (math_Abs_mk (math_Abs a0)))
  | _ => none
set_option maxRecDepth 100000 in
theorem math_Abs_ok : FunOK Tryd.prog 166 math_Abs_c.fn := by
  refine con_ok (Γ := gam [(185, math_Float64bits_c), (184, math_Float64frombits_c)]) (gam_cons math_Float64bits_ok (gam_cons math_Float64frombits_ok (gam_nil))) tab_ok (by kernel_rfl) Tryd.func166 (by kernel_rfl) (by kernel_rfl) Tryd.ntmps166 Tryd.results166 (loopsOK_none rfl _) 100000 fun args t h => ?_
  unfold math_Abs_c at h
  split at h
  · rename_i a0
    cases h
    exact ⟨rfl, agree_tot (mk := math_Abs_mk) (t := math_Abs_tree a0) (by unfold Agree; kernel_rfl) (by kernel_rfl)⟩
  · cases h

/-- math.IsInf -/
def math_IsInf_tree (a0 : Nat) (a1 : Int) : DT (Bool) :=
  let x0 := (a1 == 0);
  .ask x0
  (
   let x1 := math_Abs a0;
   let x2 := fgt .f64 x1 9218868437227405311;
   .leaf x2)
  (
   let x1 := decide (a1 < 0);
   .ask x1
   (
    let x2 := fneg .f64 a0;
    let x3 := fgt .f64 x2 9218868437227405311;
    .leaf x3)
   (
    let x2 := fgt .f64 a0 9218868437227405311;
    .leaf x2))
def math_IsInf (a0 : Nat) (a1 : Int) : Bool := (math_IsInf_tree a0 a1).val
def math_IsInf_mk (p : Bool) : Ret := ⟨.bool p, []⟩
def math_IsInf_c : Con := fun args => match args with
  | [.flt .f64 a0, .int .i64 a1] => some (.leaf (math_IsInf_mk (math_IsInf a0 a1)))
  | _ => none
set_option maxRecDepth 100000 in
theorem math_IsInf_ok : FunOK Tryd.prog 149 math_IsInf_c.fn := by
  refine con_ok (Γ := gam [(166, math_Abs_c)]) (gam_cons math_Abs_ok (gam_nil)) tab_ok (by kernel_rfl) Tryd.func149 (by kernel_rfl) (by kernel_rfl) Tryd.ntmps149 Tryd.results149 (loopsOK_none rfl _) 100000 fun args t h => ?_
  unfold math_IsInf_c at h
  split at h
  · rename_i a0 a1
    cases h
    exact ⟨rfl, agree_tot (mk := math_IsInf_mk) (t := math_IsInf_tree a0 a1) (by unfold Agree; kernel_rfl) (by kernel_rfl)⟩
  · cases h

/-- loop.example/g01284/impl.finite -/
def impl_finite_tree (a0 : Nat) : DT (Bool) :=
  let x0 := math_IsNaN a0;
  .ask (!x0)
  (
   let x1 := math_IsInf a0 0;
   .leaf (!x1))
  (
   .leaf false)
def impl_finite (a0 : Nat) : Bool := (impl_finite_tree a0).val
def impl_finite_mk (p : Bool) : Ret := ⟨.bool p, []⟩
def impl_finite_c : Con := fun args => match args with
  | [.flt .f64 a0] => some (.leaf (impl_finite_mk (impl_finite a0)))
  | _ => none
set_option maxRecDepth 100000 in
theorem impl_finite_ok : FunOK Tryd.prog 133 impl_finite_c.fn := by
  refine con_ok (Γ := gam [(148, math_IsNaN_c), (149, math_IsInf_c)]) (gam_cons math_IsNaN_ok (gam_cons math_IsInf_ok (gam_nil))) tab_ok (by kernel_rfl) Tryd.func133 (by kernel_rfl) (by kernel_rfl) Tryd.ntmps133 Tryd.results133 (loopsOK_none rfl _) 100000 fun args t h => ?_
  unfold impl_finite_c at h
  split at h
  · rename_i a0
    cases h
    exact ⟨rfl, agree_tot (mk := impl_finite_mk) (t := impl_finite_tree a0) (by unfold Agree; kernel_rfl) (by kernel_rfl)⟩
  · cases h

/-- loop.example/g01284/impl.IsFinite -/
def impl_IsFinite_tree (a0 : Nat) : DT (Bool) :=
  .need ((fconvOk .f32 a0 .f64)) (
  let x0 := fconv .f32 a0 .f64;
  let x1 := impl_finite x0;
  .leaf x1)
def impl_IsFinite (a0 : Nat) : Bool := (impl_IsFinite_tree a0).val
def impl_IsFinite_need (a0 : Nat) : Bool := (impl_IsFinite_tree a0).ok
def impl_IsFinite_mk (p : Bool) : Ret := ⟨.bool p, []⟩
def impl_IsFinite_c : Con := fun args => match args with
  | [.flt .f32 a0] => some (.need (impl_IsFinite_need a0) (.leaf (impl_IsFinite_mk (impl_IsFinite a0))))
  | _ => none
set_option maxRecDepth 100000 in
theorem impl_IsFinite_ok : FunOK Tryd.prog 106 impl_IsFinite_c.fn := by
  refine con_ok (Γ := gam [(133, impl_finite_c)]) (gam_cons impl_finite_ok (gam_nil)) tab_ok (by kernel_rfl) Tryd.func106 (by kernel_rfl) (by kernel_rfl) Tryd.ntmps106 Tryd.results106 (loopsOK_none rfl _) 100000 fun args t h => ?_
  unfold impl_IsFinite_c at h
  split at h
  · rename_i a0
    cases h
    exact ⟨rfl, agree_need (mk := impl_IsFinite_mk) (t := impl_IsFinite_tree a0) (by unfold Agree; kernel_rfl)⟩
  · cases h

/-- loop.example/g01284/impl.aLength -/
def impl_aLength_tree (a0 : Nat) : DT (Bool) :=
  .need ((impl_IsFinite_need a0)) (
  let x0 := impl_IsFinite a0;
  .ask x0
  (
   let x1 := fgt .f32 a0 0;
   .leaf x1)
  (
   .leaf false))
def impl_aLength (a0 : Nat) : Bool := (impl_aLength_tree a0).val
def impl_aLength_need (a0 : Nat) : Bool := (impl_aLength_tree a0).ok
def impl_aLength_mk (p : Bool) : Ret := ⟨.bool p, []⟩
def impl_aLength_c : Con := fun args => match args with
  | [.flt .f32 a0] => some (.need (impl_aLength_need a0) (.leaf (impl_aLength_mk (impl_aLength a0))))
  | _ => none
set_option maxRecDepth 100000 in
theorem impl_aLength_ok : FunOK Tryd.prog 126 impl_aLength_c.fn := by
  refine con_ok (Γ := gam [(106, impl_IsFinite_c)]) (gam_cons impl_IsFinite_ok (gam_nil)) tab_ok (by kernel_rfl) Tryd.func126 (by kernel_rfl) (by kernel_rfl) Tryd.ntmps126 Tryd.results126 (loopsOK_none rfl _) 100000 fun args t h => ?_
  unfold impl_aLength_c at h
  split at h
  · rename_i a0
    cases h
    exact ⟨rfl, agree_need (mk := impl_aLength_mk) (t := impl_aLength_tree a0) (by unfold Agree; kernel_rfl)⟩
  · cases h

/-- a loop of impl_areLengths -/
def impl_areLengths_loop0_step (p : List Nat × Int) (s : Int) : Round (Int) ((Unit) ⊕ (Unit)) :=
  let x0 := decide (s < p.2);
  .ask x0
  (
   .need ((decide (0 ≤ s) && decide (s < ((List.length p.1 : Nat) : Int)))) (
   let x1 := List.getD p.1 (Int.toNat s) default;
   .need ((impl_aLength_need x1)) (
   let x2 := impl_aLength x1;
   .ask (!x2)
   (
    .leaf (.inr (.inl ()), []))
   (
    let x3 := IntKind.wrap .i64 (s + 1);
    .leaf (.inl x3, [])))))
  (
   .leaf (.inr (.inr ()), []))
def impl_areLengths_loop0_L (p : List Nat × Int) : LoopS (Int) ((Unit) ⊕ (Unit)) := { tl := fun s => [.junk, .junk, .junk, .junk, .junk, .vslc 1 (.flt .f32) p.1, .int .i64 p.2, .int .i64 s], hl := fun s => [], ex := fun r => match r with | .inl r => .ret | .inr r => .exit 0, otl := fun r => match r with | .inl r => [.junk, .junk, .bool false] | .inr r => [.junk], ohl := fun r => match r with | .inl r => [] | .inr r => [] }
def impl_areLengths_loop0_ext : St → Option ((List Nat × Int) × (Int) × List Nat) := fun S => match (S.tm 5).unK, (S.tm 6).unK, (S.tm 7).unK with
  | .vslc 1 (.flt .f32) q0, .int .i64 q1, .int .i64 q2 => some ((q0, q1), q2, [])
  | _, _, _ => none
def impl_areLengths_loop0_post (p : List Nat × Int) (r : (Unit) ⊕ (Unit)) : DT (Ex × St) := .ask (isL r) (.leaf (.ret, LSt [.junk, .junk, .bool false] [])) (.leaf (.exit 0, LSt [.junk] []))
def impl_areLengths_loop0 (p : List Nat × Int) (s : Int) : (Unit) ⊕ (Unit) := loopVal (impl_areLengths_loop0_step p) s
def impl_areLengths_loop0_ends (p : List Nat × Int) (s : Int) : Bool := loopEnds (impl_areLengths_loop0_step p) s
def impl_areLengths_loop0_F : LoopF := loopF impl_areLengths_loop0_step impl_areLengths_loop0_ext impl_areLengths_loop0_post
theorem impl_areLengths_loop0_hext : ∀ S p s fl, impl_areLengths_loop0_ext S = some (p, s, fl) → Norm S fl ((impl_areLengths_loop0_L p).tl s) ((impl_areLengths_loop0_L p).hl s) (impl_areLengths_loop0_L p).gl := by
  intro S p s fl h
  unfold impl_areLengths_loop0_ext at h
  (repeat' split at h) <;> first
    | (cases h; constructor <;> simp_all [impl_areLengths_loop0_L, keepT, keepH, rens, renH, PV.ren, Blk.ren, fOf, lget, nodup, natIn, lenEq, gtm, PV.unK])
    | cases h
theorem impl_areLengths_loop0_hpost : ∀ p r e S', (impl_areLengths_loop0_post p r).get = some (e, S') → e = (impl_areLengths_loop0_L p).ex r ∧ S' = LSt ((impl_areLengths_loop0_L p).otl r) ((impl_areLengths_loop0_L p).ohl r) ((impl_areLengths_loop0_L p).ogl r) := by
  intro p r e S' h
  unfold impl_areLengths_loop0_post at h
  cases r <;> (simp only [isL, DT.get, Option.some.injEq, Prod.mk.injEq] at h; exact ⟨h.1.symm, h.2.symm⟩)

def impl_areLengths_loops : Nat → Option LoopF := loopTab [(2, impl_areLengths_loop0_F)]
set_option maxRecDepth 100000 in
theorem impl_areLengths_l0 : LoopOK Tryd.prog ⟨gam [(126, impl_aLength_c)], tab, 15, impl_areLengths_loops⟩ (lp Tryd.f95 0) :=
  loopOK_some (F := impl_areLengths_loop0_F) (by kernel_rfl) (loopF_ok (E := ⟨gam [(126, impl_aLength_c)], tab, 15, impl_areLengths_loops⟩) ⟨gam_cons impl_aLength_ok (gam_nil), tab_ok, by kernel_rfl⟩ (fuel := 100000) (loopsOK_list (l := []) (by kernel_rfl) trivial) (L := impl_areLengths_loop0_L) (fun p s => by unfold AgreeL; exact ⟨by kernel_rfl, by kernel_rfl⟩) (fun _ r h => by cases r <;> exact Ex.noConfusion h) impl_areLengths_loop0_hext impl_areLengths_loop0_hpost)
/-- loop.example/g01284/impl.areLengths -/
def impl_areLengths_tree (a0 : List Nat) : DT (Bool) :=
  let x0 := ((List.length a0 : Nat) : Int);
  .need ((impl_areLengths_loop0_ends (a0, x0) 0)) (
  let x1 := impl_areLengths_loop0 (a0, x0) 0;
  .ask ((isL x1))
  (
   .leaf false)
  (
   .leaf true))
def impl_areLengths (a0 : List Nat) : Bool := (impl_areLengths_tree a0).val
def impl_areLengths_need (a0 : List Nat) : Bool := (impl_areLengths_tree a0).ok
def impl_areLengths_mk (p : Bool) : Ret := ⟨.bool p, []⟩
def impl_areLengths_c0 : Con := fun args => match args with
  | [.vslc 1 (.flt .f32) a0] => some (.need (impl_areLengths_need a0) (.leaf (impl_areLengths_mk (impl_areLengths a0))))
  | _ => none
set_option maxRecDepth 100000 in
theorem impl_areLengths_ok0 : FunOK Tryd.prog 95 impl_areLengths_c0.fn := by
  refine con_ok (Γ := gam [(126, impl_aLength_c)]) (gam_cons impl_aLength_ok (gam_nil)) tab_ok (by kernel_rfl) Tryd.func95 (by kernel_rfl) (by kernel_rfl) Tryd.ntmps95 Tryd.results95 (loops := impl_areLengths_loops) (loopsOK_list (l := [lp Tryd.f95 0]) (by kernel_rfl) ⟨impl_areLengths_l0, trivial⟩) 100000 fun args t h => ?_
  unfold impl_areLengths_c0 at h
  split at h
  · rename_i a0
    cases h
    exact ⟨rfl, agree_need (mk := impl_areLengths_mk) (t := impl_areLengths_tree a0) (by unfold Agree; kernel_rfl)⟩
  · cases h
def impl_areLengths_c : Con := fun args => impl_areLengths_c0 (norms 0 [.slc (.flt .f32)] args)
set_option maxRecDepth 100000 in
theorem impl_areLengths_ok : FunOK Tryd.prog 95 impl_areLengths_c.fn := con_norm [.slc (.flt .f32)] impl_areLengths_ok0

/-- loop.example/g01284/impl.areFinite$1 -/
def impl_areFinite_1_tree (a0 : Nat) : DT (Bool) :=
  .need ((impl_IsFinite_need a0)) (
  let x0 := impl_IsFinite a0;
  .leaf (!x0))
def impl_areFinite_1 (a0 : Nat) : Bool := (impl_areFinite_1_tree a0).val
def impl_areFinite_1_need (a0 : Nat) : Bool := (impl_areFinite_1_tree a0).ok
def impl_areFinite_1_mk (p : Bool) : Ret := ⟨.bool p, []⟩
def impl_areFinite_1_c : Con := fun args => match args with
  | [.flt .f32 a0] => some (.need (impl_areFinite_1_need a0) (.leaf (impl_areFinite_1_mk (impl_areFinite_1 a0))))
  | _ => none
set_option maxRecDepth 100000 in
theorem impl_areFinite_1_ok : FunOK Tryd.prog 128 impl_areFinite_1_c.fn := by
  refine con_ok (Γ := gam [(106, impl_IsFinite_c)]) (gam_cons impl_IsFinite_ok (gam_nil)) tab_ok (by kernel_rfl) Tryd.func128 (by kernel_rfl) (by kernel_rfl) Tryd.ntmps128 Tryd.results128 (loopsOK_none rfl _) 100000 fun args t h => ?_
  unfold impl_areFinite_1_c at h
  split at h
  · rename_i a0
    cases h
    exact ⟨rfl, agree_need (mk := impl_areFinite_1_mk) (t := impl_areFinite_1_tree a0) (by unfold Agree; kernel_rfl)⟩
  · cases h

/-- a loop of slices_IndexFunc___float32_float32__impl_areFinite_1 -/
def slices_IndexFunc___float32_float32__impl_areFinite_1_loop0_step (p : List Nat × Int) (s : Int) : Round (Int) ((Int) ⊕ (Unit)) :=
  let x0 := decide (s < p.2);
  .ask x0
  (
   .need ((decide (0 ≤ s) && decide (s < ((List.length p.1 : Nat) : Int)))) (
   let x1 := List.getD p.1 (Int.toNat s) default;
   .need ((impl_areFinite_1_need x1)) (
   let x2 := impl_areFinite_1 x1;
   .ask x2
   (
    .leaf (.inr (.inl s), []))
   (
    let x3 := IntKind.wrap .i64 (s + 1);
    .leaf (.inl x3, [])))))
  (
   .leaf (.inr (.inr ()), []))
def slices_IndexFunc___float32_float32__impl_areFinite_1_loop0_L (p : List Nat × Int) : LoopS (Int) ((Int) ⊕ (Unit)) := { tl := fun s => [.vslc 1 (.flt .f32) p.1, .func (.func 128) [] [], .junk, .junk, .junk, .junk, .junk, .int .i64 p.2, .int .i64 s], hl := fun s => [], ex := fun r => match r with | .inl r => .ret | .inr r => .exit 0, otl := fun r => match r with | .inl r => [.junk, .junk, .junk, .junk, .int .i64 r] | .inr r => [.junk], ohl := fun r => match r with | .inl r => [] | .inr r => [] }
def slices_IndexFunc___float32_float32__impl_areFinite_1_loop0_ext : St → Option ((List Nat × Int) × (Int) × List Nat) := fun S => match (S.tm 0).unK, (S.tm 1).unK, (S.tm 7).unK, (S.tm 8).unK with
  | .vslc 1 (.flt .f32) q0, .func (.func 128) [] [], .int .i64 q1, .int .i64 q2 => some ((q0, q1), q2, [])
  | _, _, _, _ => none
def slices_IndexFunc___float32_float32__impl_areFinite_1_loop0_post (p : List Nat × Int) (r : (Int) ⊕ (Unit)) : DT (Ex × St) := .ask (isL r) (.leaf (.ret, LSt [.junk, .junk, .junk, .junk, .int .i64 ((leftD r))] [])) (.leaf (.exit 0, LSt [.junk] []))
def slices_IndexFunc___float32_float32__impl_areFinite_1_loop0 (p : List Nat × Int) (s : Int) : (Int) ⊕ (Unit) := loopVal (slices_IndexFunc___float32_float32__impl_areFinite_1_loop0_step p) s
def slices_IndexFunc___float32_float32__impl_areFinite_1_loop0_ends (p : List Nat × Int) (s : Int) : Bool := loopEnds (slices_IndexFunc___float32_float32__impl_areFinite_1_loop0_step p) s
def slices_IndexFunc___float32_float32__impl_areFinite_1_loop0_F : LoopF := loopF slices_IndexFunc___float32_float32__impl_areFinite_1_loop0_step slices_IndexFunc___float32_float32__impl_areFinite_1_loop0_ext slices_IndexFunc___float32_float32__impl_areFinite_1_loop0_post
theorem slices_IndexFunc___float32_float32__impl_areFinite_1_loop0_hext : ∀ S p s fl, slices_IndexFunc___float32_float32__impl_areFinite_1_loop0_ext S = some (p, s, fl) → Norm S fl ((slices_IndexFunc___float32_float32__impl_areFinite_1_loop0_L p).tl s) ((slices_IndexFunc___float32_float32__impl_areFinite_1_loop0_L p).hl s) (slices_IndexFunc___float32_float32__impl_areFinite_1_loop0_L p).gl := by
  intro S p s fl h
  unfold slices_IndexFunc___float32_float32__impl_areFinite_1_loop0_ext at h
  (repeat' split at h) <;> first
    | (cases h; constructor <;> simp_all [slices_IndexFunc___float32_float32__impl_areFinite_1_loop0_L, keepT, keepH, rens, renH, PV.ren, Blk.ren, fOf, lget, nodup, natIn, lenEq, gtm, PV.unK])
    | cases h
theorem slices_IndexFunc___float32_float32__impl_areFinite_1_loop0_hpost : ∀ p r e S', (slices_IndexFunc___float32_float32__impl_areFinite_1_loop0_post p r).get = some (e, S') → e = (slices_IndexFunc___float32_float32__impl_areFinite_1_loop0_L p).ex r ∧ S' = LSt ((slices_IndexFunc___float32_float32__impl_areFinite_1_loop0_L p).otl r) ((slices_IndexFunc___float32_float32__impl_areFinite_1_loop0_L p).ohl r) ((slices_IndexFunc___float32_float32__impl_areFinite_1_loop0_L p).ogl r) := by
  intro p r e S' h
  unfold slices_IndexFunc___float32_float32__impl_areFinite_1_loop0_post at h
  cases r <;> (simp only [isL, DT.get, Option.some.injEq, Prod.mk.injEq] at h; exact ⟨h.1.symm, h.2.symm⟩)

def slices_IndexFunc___float32_float32__impl_areFinite_1_loops : Nat → Option LoopF := loopTab [(2, slices_IndexFunc___float32_float32__impl_areFinite_1_loop0_F)]
set_option maxRecDepth 100000 in
theorem slices_IndexFunc___float32_float32__impl_areFinite_1_l0 : LoopOK Tryd.prog ⟨gam [(128, impl_areFinite_1_c)], tab, 19, slices_IndexFunc___float32_float32__impl_areFinite_1_loops⟩ (lp Tryd.f147 0) :=
  loopOK_some (F := slices_IndexFunc___float32_float32__impl_areFinite_1_loop0_F) (by kernel_rfl) (loopF_ok (E := ⟨gam [(128, impl_areFinite_1_c)], tab, 19, slices_IndexFunc___float32_float32__impl_areFinite_1_loops⟩) ⟨gam_cons impl_areFinite_1_ok (gam_nil), tab_ok, by kernel_rfl⟩ (fuel := 100000) (loopsOK_list (l := []) (by kernel_rfl) trivial) (L := slices_IndexFunc___float32_float32__impl_areFinite_1_loop0_L) (fun p s => by unfold AgreeL; exact ⟨by kernel_rfl, by kernel_rfl⟩) (fun _ r h => by cases r <;> exact Ex.noConfusion h) slices_IndexFunc___float32_float32__impl_areFinite_1_loop0_hext slices_IndexFunc___float32_float32__impl_areFinite_1_loop0_hpost)
/-- slices.IndexFunc[[]float32,float32] -/
def slices_IndexFunc___float32_float32__impl_areFinite_1_tree (a0 : List Nat) : DT (Int) :=
  let x0 := ((List.length a0 : Nat) : Int);
  .need ((slices_IndexFunc___float32_float32__impl_areFinite_1_loop0_ends (a0, x0) 0)) (
  let x1 := slices_IndexFunc___float32_float32__impl_areFinite_1_loop0 (a0, x0) 0;
  .ask ((isL x1))
  (
   .leaf ((leftD x1)))
  (
   .leaf (-1)))
def slices_IndexFunc___float32_float32__impl_areFinite_1 (a0 : List Nat) : Int := (slices_IndexFunc___float32_float32__impl_areFinite_1_tree a0).val
def slices_IndexFunc___float32_float32__impl_areFinite_1_need (a0 : List Nat) : Bool := (slices_IndexFunc___float32_float32__impl_areFinite_1_tree a0).ok
def slices_IndexFunc___float32_float32__impl_areFinite_1_mk (p : Int) : Ret := ⟨.int .i64 p, []⟩
def slices_IndexFunc___float32_float32__impl_areFinite_1_c0 : Con := fun args => match args with
  | [.vslc 1 (.flt .f32) a0, .func (.func 128) [] []] => some (.need (slices_IndexFunc___float32_float32__impl_areFinite_1_need a0) (.leaf (slices_IndexFunc___float32_float32__impl_areFinite_1_mk (slices_IndexFunc___float32_float32__impl_areFinite_1 a0))))
  | _ => none
set_option maxRecDepth 100000 in
theorem slices_IndexFunc___float32_float32__impl_areFinite_1_ok0 : FunOK Tryd.prog 147 slices_IndexFunc___float32_float32__impl_areFinite_1_c0.fn := by
  refine con_ok (Γ := gam [(128, impl_areFinite_1_c)]) (gam_cons impl_areFinite_1_ok (gam_nil)) tab_ok (by kernel_rfl) Tryd.func147 (by kernel_rfl) (by kernel_rfl) Tryd.ntmps147 Tryd.results147 (loops := slices_IndexFunc___float32_float32__impl_areFinite_1_loops) (loopsOK_list (l := [lp Tryd.f147 0]) (by kernel_rfl) ⟨slices_IndexFunc___float32_float32__impl_areFinite_1_l0, trivial⟩) 100000 fun args t h => ?_
  unfold slices_IndexFunc___float32_float32__impl_areFinite_1_c0 at h
  split at h
  · rename_i a0
    cases h
    exact ⟨rfl, agree_need (mk := slices_IndexFunc___float32_float32__impl_areFinite_1_mk) (t := slices_IndexFunc___float32_float32__impl_areFinite_1_tree a0) (by unfold Agree; kernel_rfl)⟩
  · cases h
def slices_IndexFunc___float32_float32__impl_areFinite_1_c : Con := fun args => slices_IndexFunc___float32_float32__impl_areFinite_1_c0 (norms 0 [.slc (.flt .f32), .none] args)
set_option maxRecDepth 100000 in
theorem slices_IndexFunc___float32_float32__impl_areFinite_1_ok : FunOK Tryd.prog 147 slices_IndexFunc___float32_float32__impl_areFinite_1_c.fn := con_norm [.slc (.flt .f32), .none] slices_IndexFunc___float32_float32__impl_areFinite_1_ok0

/-- slices.ContainsFunc[[]float32,float32] -/
def slices_ContainsFunc___float32_float32__impl_areFinite_1_tree (a0 : List Nat) : DT (Bool) :=
  .need ((slices_IndexFunc___float32_float32__impl_areFinite_1_need a0 )) (
  let x0 := slices_IndexFunc___float32_float32__impl_areFinite_1 a0 ;
  let x1 := decide (x0 ≥ 0);
  .leaf x1)
def slices_ContainsFunc___float32_float32__impl_areFinite_1 (a0 : List Nat) : Bool := (slices_ContainsFunc___float32_float32__impl_areFinite_1_tree a0).val
def slices_ContainsFunc___float32_float32__impl_areFinite_1_need (a0 : List Nat) : Bool := (slices_ContainsFunc___float32_float32__impl_areFinite_1_tree a0).ok
def slices_ContainsFunc___float32_float32__impl_areFinite_1_mk (p : Bool) : Ret := ⟨.bool p, []⟩
def slices_ContainsFunc___float32_float32__impl_areFinite_1_c0 : Con := fun args => match args with
  | [.vslc 1 (.flt .f32) a0, .func (.func 128) [] []] => some (.need (slices_ContainsFunc___float32_float32__impl_areFinite_1_need a0) (.leaf (slices_ContainsFunc___float32_float32__impl_areFinite_1_mk (slices_ContainsFunc___float32_float32__impl_areFinite_1 a0))))
  | _ => none
set_option maxRecDepth 100000 in
theorem slices_ContainsFunc___float32_float32__impl_areFinite_1_ok0 : FunOK Tryd.prog 127 slices_ContainsFunc___float32_float32__impl_areFinite_1_c0.fn := by
  refine con_ok (Γ := gam [(147, slices_IndexFunc___float32_float32__impl_areFinite_1_c)]) (gam_cons slices_IndexFunc___float32_float32__impl_areFinite_1_ok (gam_nil)) tab_ok (by kernel_rfl) Tryd.func127 (by kernel_rfl) (by kernel_rfl) Tryd.ntmps127 Tryd.results127 (loopsOK_none rfl _) 100000 fun args t h => ?_
  unfold slices_ContainsFunc___float32_float32__impl_areFinite_1_c0 at h
  split at h
  · rename_i a0
    cases h
    exact ⟨rfl, agree_need (mk := slices_ContainsFunc___float32_float32__impl_areFinite_1_mk) (t := slices_ContainsFunc___float32_float32__impl_areFinite_1_tree a0) (by unfold Agree; kernel_rfl)⟩
  · cases h
def slices_ContainsFunc___float32_float32__impl_areFinite_1_c : Con := fun args => slices_ContainsFunc___float32_float32__impl_areFinite_1_c0 (norms 0 [.slc (.flt .f32), .none] args)
set_option maxRecDepth 100000 in
theorem slices_ContainsFunc___float32_float32__impl_areFinite_1_ok : FunOK Tryd.prog 127 slices_ContainsFunc___float32_float32__impl_areFinite_1_c.fn := con_norm [.slc (.flt .f32), .none] slices_ContainsFunc___float32_float32__impl_areFinite_1_ok0

/-- loop.example/g01284/impl.areFinite -/
def impl_areFinite_tree (a0 : List Nat) : DT (Bool) :=
  .need ((slices_ContainsFunc___float32_float32__impl_areFinite_1_need a0 )) (
  let x0 := slices_ContainsFunc___float32_float32__impl_areFinite_1 a0 ;
  .leaf (!x0))
def impl_areFinite (a0 : List Nat) : Bool := (impl_areFinite_tree a0).val
def impl_areFinite_need (a0 : List Nat) : Bool := (impl_areFinite_tree a0).ok
def impl_areFinite_mk (p : Bool) : Ret := ⟨.bool p, []⟩
def impl_areFinite_c0 : Con := fun args => match args with
  | [.vslc 1 (.flt .f32) a0] => some (.need (impl_areFinite_need a0) (.leaf (impl_areFinite_mk (impl_areFinite a0))))
  | _ => none
set_option maxRecDepth 100000 in
theorem impl_areFinite_ok0 : FunOK Tryd.prog 96 impl_areFinite_c0.fn := by
  refine con_ok (Γ := gam [(127, slices_ContainsFunc___float32_float32__impl_areFinite_1_c)]) (gam_cons slices_ContainsFunc___float32_float32__impl_areFinite_1_ok (gam_nil)) tab_ok (by kernel_rfl) Tryd.func96 (by kernel_rfl) (by kernel_rfl) Tryd.ntmps96 Tryd.results96 (loopsOK_none rfl _) 100000 fun args t h => ?_
  unfold impl_areFinite_c0 at h
  split at h
  · rename_i a0
    cases h
    exact ⟨rfl, agree_need (mk := impl_areFinite_mk) (t := impl_areFinite_tree a0) (by unfold Agree; kernel_rfl)⟩
  · cases h
def impl_areFinite_c : Con := fun args => impl_areFinite_c0 (norms 0 [.slc (.flt .f32)] args)
set_option maxRecDepth 100000 in
theorem impl_areFinite_ok : FunOK Tryd.prog 96 impl_areFinite_c.fn := con_norm [.slc (.flt .f32)] impl_areFinite_ok0

/-- loop.example/g01284/impl.ValidBall -/
def impl_ValidBall_tree (a0 : Ball) : DT (Bool) :=
  .need ((impl_areLengths_need ([a0.Mass, a0.Radius]))) (
  let x0 := impl_areLengths ([a0.Mass, a0.Radius]);
  .ask x0
  (
   .need ((impl_areFinite_need ([a0.Spin, a0.Start]))) (
   let x1 := impl_areFinite ([a0.Spin, a0.Start]);
   .leaf x1))
  (
   .leaf false))
def impl_ValidBall (a0 : Ball) : Bool := (impl_ValidBall_tree a0).val
def impl_ValidBall_need (a0 : Ball) : Bool := (impl_ValidBall_tree a0).ok
def impl_ValidBall_mk (p : Bool) : Ret := ⟨.bool p, []⟩
def impl_ValidBall_c : Con := fun args => match args with
  | [.agg [.flt .f32 a0_0, .flt .f32 a0_1, .flt .f32 a0_2, .flt .f32 a0_3]] => some (.need (impl_ValidBall_need (⟨a0_0, a0_1, a0_2, a0_3⟩ : Ball)) (.leaf (impl_ValidBall_mk (impl_ValidBall (⟨a0_0, a0_1, a0_2, a0_3⟩ : Ball)))))
  | _ => none
set_option maxRecDepth 100000 in
theorem impl_ValidBall_ok : FunOK Tryd.prog 54 impl_ValidBall_c.fn := by
  refine con_ok (Γ := gam [(95, impl_areLengths_c), (96, impl_areFinite_c)]) (gam_cons impl_areLengths_ok (gam_cons impl_areFinite_ok (gam_nil))) tab_ok (by kernel_rfl) Tryd.func54 (by kernel_rfl) (by kernel_rfl) Tryd.ntmps54 Tryd.results54 (loopsOK_none rfl _) 100000 fun args t h => ?_
  unfold impl_ValidBall_c at h
  split at h
  · rename_i a0_0 a0_1 a0_2 a0_3
    cases h
    exact ⟨rfl, agree_need (mk := impl_ValidBall_mk) (t := impl_ValidBall_tree (⟨a0_0, a0_1, a0_2, a0_3⟩ : Ball)) (by unfold Agree; kernel_rfl)⟩
  · cases h

/-- loop.example/g01284/impl.ReadBall -/
def impl_ReadBall_tree (a0 : (List UInt8)) : DT (Ball × Bool) :=
  .need ((impl_ReadNumbers_need a0)) (
  let x0 := impl_ReadNumbers a0;
  .ask ((isL x0))
  (
   .skip (
   .skip (
   let x1 := ((List.length (leftD x0) : Nat) : Int);
   .skip (
   let x2 := (x1 != 4);
   .skip (
   .ask x2
   (
    .leaf ((⟨0, 0, 0, 0⟩ : Ball), false))
   (
    .need ((decide (0 ≤ 0) && decide (0 < ((List.length (leftD x0) : Nat) : Int)))) (
    .need ((decide (0 < List.length (leftD x0)))) (
    let x3 := List.getD (leftD x0) 0 default;
    .need ((decide (0 ≤ 1) && decide (1 < ((List.length (leftD x0) : Nat) : Int)))) (
    .need ((decide (1 < List.length (leftD x0)))) (
    let x4 := List.getD (leftD x0) 1 default;
    .need ((decide (0 ≤ 2) && decide (2 < ((List.length (leftD x0) : Nat) : Int)))) (
    .need ((decide (2 < List.length (leftD x0)))) (
    let x5 := List.getD (leftD x0) 2 default;
    .need ((decide (0 ≤ 3) && decide (3 < ((List.length (leftD x0) : Nat) : Int)))) (
    .need ((decide (3 < List.length (leftD x0)))) (
    let x6 := List.getD (leftD x0) 3 default;
    .need ((impl_ValidBall_need (⟨x3, x4, x5, x6⟩ : Ball))) (
    let x7 := impl_ValidBall (⟨x3, x4, x5, x6⟩ : Ball);
    .ask (!x7)
    (
     .leaf ((⟨0, 0, 0, 0⟩ : Ball), false))
    (
     .need ((decide (0 ≤ 0) && decide (0 < ((List.length (leftD x0) : Nat) : Int)))) (
     .need ((decide (0 < List.length (leftD x0)))) (
     let x8 := List.getD (leftD x0) 0 default;
     .need ((decide (0 ≤ 1) && decide (1 < ((List.length (leftD x0) : Nat) : Int)))) (
     .need ((decide (1 < List.length (leftD x0)))) (
     let x9 := List.getD (leftD x0) 1 default;
     .need ((decide (0 ≤ 2) && decide (2 < ((List.length (leftD x0) : Nat) : Int)))) (
     .need ((decide (2 < List.length (leftD x0)))) (
     let x10 := List.getD (leftD x0) 2 default;
     .need ((decide (0 ≤ 3) && decide (3 < ((List.length (leftD x0) : Nat) : Int)))) (
     .need ((decide (3 < List.length (leftD x0)))) (
     let x11 := List.getD (leftD x0) 3 default;
     .leaf ((⟨x8, x9, x10, x11⟩ : Ball), true)))))))))))))))))))))))))
  (
   .skip (
   .skip (
   .skip (
   .skip (
   .leaf ((⟨0, 0, 0, 0⟩ : Ball), false)))))))
def impl_ReadBall (a0 : (List UInt8)) : Ball × Bool := (impl_ReadBall_tree a0).val
def impl_ReadBall_need (a0 : (List UInt8)) : Bool := (impl_ReadBall_tree a0).ok
def impl_ReadBall_mk (p : Ball × Bool) : Ret := ⟨.tup [.agg [.flt .f32 p.1.Mass, .flt .f32 p.1.Radius, .flt .f32 p.1.Spin, .flt .f32 p.1.Start], .bool p.2], []⟩
def impl_ReadBall_c : Con := fun args => match args with
  | [.str a0] => some (.need (impl_ReadBall_need a0) (.leaf (impl_ReadBall_mk (impl_ReadBall a0))))
  | _ => none
set_option maxRecDepth 100000 in
theorem impl_ReadBall_ok : FunOK Tryd.prog 33 impl_ReadBall_c.fn := by
  refine con_ok (Γ := gam [(74, impl_ReadNumbers_c), (54, impl_ValidBall_c)]) (gam_cons impl_ReadNumbers_ok (gam_cons impl_ValidBall_ok (gam_nil))) tab_ok (by kernel_rfl) Tryd.func33 (by kernel_rfl) (by kernel_rfl) Tryd.ntmps33 Tryd.results33 (loopsOK_none rfl _) 100000 fun args t h => ?_
  unfold impl_ReadBall_c at h
  split at h
  · rename_i a0
    cases h
    exact ⟨rfl, agree_need (mk := impl_ReadBall_mk) (t := impl_ReadBall_tree a0) (by unfold Agree; kernel_rfl)⟩
  · cases h

/-- loop.example/g01284/laws.sameFloat -/
def laws_sameFloat_tree (a0 : Nat) (a1 : Nat) : DT (Bool) :=
  let x0 := fne .f64 a0 a0;
  .ask x0
  (
   let x1 := fne .f64 a0 a0;
   .ask x1
   (
    let x2 := fne .f64 a1 a1;
    .leaf x2)
   (
    .leaf false))
  (
   let x1 := fne .f64 a1 a1;
   .ask x1
   (
    let x2 := fne .f64 a0 a0;
    .ask x2
    (
     let x3 := fne .f64 a1 a1;
     .leaf x3)
    (
     .leaf false))
   (
    let x2 := feq .f64 a0 0;
    .ask x2
    (
     let x3 := feq .f64 a1 0;
     .ask x3
     (
      let x4 := fdiv .f64 4607182418800017408 a0;
      let x5 := fgt .f64 x4 0;
      let x6 := fdiv .f64 4607182418800017408 a1;
      let x7 := fgt .f64 x6 0;
      let x8 := (x5 == x7);
      .leaf x8)
     (
      let x4 := feq .f64 a0 a1;
      .leaf x4))
    (
     let x3 := feq .f64 a0 a1;
     .leaf x3)))
def laws_sameFloat (a0 : Nat) (a1 : Nat) : Bool := (laws_sameFloat_tree a0 a1).val
def laws_sameFloat_mk (p : Bool) : Ret := ⟨.bool p, []⟩
def laws_sameFloat_c : Con := fun args => match args with
  | [.flt .f64 a0, .flt .f64 a1] => some (.leaf (laws_sameFloat_mk (laws_sameFloat a0 a1)))
  | _ => none
set_option maxRecDepth 100000 in
theorem laws_sameFloat_ok : FunOK Tryd.prog 75 laws_sameFloat_c.fn := by
  refine con_ok (Γ := gam []) (gam_nil) tab_ok (by kernel_rfl) Tryd.func75 (by kernel_rfl) (by kernel_rfl) Tryd.ntmps75 Tryd.results75 (loopsOK_none rfl _) 100000 fun args t h => ?_
  unfold laws_sameFloat_c at h
  split at h
  · rename_i a0 a1
    cases h
    exact ⟨rfl, agree_tot (mk := laws_sameFloat_mk) (t := laws_sameFloat_tree a0 a1) (by unfold Agree; kernel_rfl) (by kernel_rfl)⟩
  · cases h

/-- loop.example/g01284/laws.eqBall -/
def laws_eqBall_tree (a0 : Ball) (a1 : Ball) : DT (Bool) :=
  .need ((fconvOk .f32 a0.Mass .f64)) (
  let x0 := fconv .f32 a0.Mass .f64;
  .need ((fconvOk .f32 a1.Mass .f64)) (
  let x1 := fconv .f32 a1.Mass .f64;
  let x2 := laws_sameFloat x0 x1;
  .ask (!x2)
  (
   .leaf false)
  (
   .need ((fconvOk .f32 a0.Radius .f64)) (
   let x3 := fconv .f32 a0.Radius .f64;
   .need ((fconvOk .f32 a1.Radius .f64)) (
   let x4 := fconv .f32 a1.Radius .f64;
   let x5 := laws_sameFloat x3 x4;
   .ask (!x5)
   (
    .leaf false)
   (
    .need ((fconvOk .f32 a0.Spin .f64)) (
    let x6 := fconv .f32 a0.Spin .f64;
    .need ((fconvOk .f32 a1.Spin .f64)) (
    let x7 := fconv .f32 a1.Spin .f64;
    let x8 := laws_sameFloat x6 x7;
    .ask (!x8)
    (
     .leaf false)
    (
     .need ((fconvOk .f32 a0.Start .f64)) (
     let x9 := fconv .f32 a0.Start .f64;
     .need ((fconvOk .f32 a1.Start .f64)) (
     let x10 := fconv .f32 a1.Start .f64;
     let x11 := laws_sameFloat x9 x10;
     .ask (!x11)
     (
      .leaf false)
     (
      .leaf true))))))))))))
def laws_eqBall (a0 : Ball) (a1 : Ball) : Bool := (laws_eqBall_tree a0 a1).val
def laws_eqBall_need (a0 : Ball) (a1 : Ball) : Bool := (laws_eqBall_tree a0 a1).ok
def laws_eqBall_mk (p : Bool) : Ret := ⟨.bool p, []⟩
def laws_eqBall_c : Con := fun args => match args with
  | [.agg [.flt .f32 a0_0, .flt .f32 a0_1, .flt .f32 a0_2, .flt .f32 a0_3], .agg [.flt .f32 a1_0, .flt .f32 a1_1, .flt .f32 a1_2, .flt .f32 a1_3]] => some (.need (laws_eqBall_need (⟨a0_0, a0_1, a0_2, a0_3⟩ : Ball) (⟨a1_0, a1_1, a1_2, a1_3⟩ : Ball)) (.leaf (laws_eqBall_mk (laws_eqBall (⟨a0_0, a0_1, a0_2, a0_3⟩ : Ball) (⟨a1_0, a1_1, a1_2, a1_3⟩ : Ball)))))
  | _ => none
set_option maxRecDepth 100000 in
theorem laws_eqBall_ok : FunOK Tryd.prog 34 laws_eqBall_c.fn := by
  refine con_ok (Γ := gam [(75, laws_sameFloat_c)]) (gam_cons laws_sameFloat_ok (gam_nil)) tab_ok (by kernel_rfl) Tryd.func34 (by kernel_rfl) (by kernel_rfl) Tryd.ntmps34 Tryd.results34 (loopsOK_none rfl _) 100000 fun args t h => ?_
  unfold laws_eqBall_c at h
  split at h
  · rename_i a0_0 a0_1 a0_2 a0_3 a1_0 a1_1 a1_2 a1_3
    cases h
    exact ⟨rfl, agree_need (mk := laws_eqBall_mk) (t := laws_eqBall_tree (⟨a0_0, a0_1, a0_2, a0_3⟩ : Ball) (⟨a1_0, a1_1, a1_2, a1_3⟩ : Ball)) (by unfold Agree; kernel_rfl)⟩
  · cases h

/-- loop.example/g01284/laws.FnExactReadBall -/
def laws_FnExactReadBall_tree (a0 : (List UInt8)) : DT (Bool) :=
  let x0 := ((List.length a0 : Nat) : Int);
  let x1 := decide (x0 > 1048576);
  .ask x1
  (
   .leaf true)
  (
   .need ((spec_ReadBall_need a0)) (
   let x2 := spec_ReadBall a0;
   .need ((impl_ReadBall_need a0)) (
   let x3 := impl_ReadBall a0;
   .need ((laws_eqBall_need (⟨x3.1.Mass, x3.1.Radius, x3.1.Spin, x3.1.Start⟩ : Ball) (⟨x2.1.Mass, x2.1.Radius, x2.1.Spin, x2.1.Start⟩ : Ball))) (
   let x4 := laws_eqBall (⟨x3.1.Mass, x3.1.Radius, x3.1.Spin, x3.1.Start⟩ : Ball) (⟨x2.1.Mass, x2.1.Radius, x2.1.Spin, x2.1.Start⟩ : Ball);
   .ask (!x4)
   (
    .leaf false)
   (
    let x5 := (!(x3.2 == x2.2));
    .ask x5
    (
     .leaf false)
    (
     .leaf true))))))
def laws_FnExactReadBall (a0 : (List UInt8)) : Bool := (laws_FnExactReadBall_tree a0).val
def laws_FnExactReadBall_need (a0 : (List UInt8)) : Bool := (laws_FnExactReadBall_tree a0).ok
def laws_FnExactReadBall_mk (p : Bool) : Ret := ⟨.bool p, []⟩
def laws_FnExactReadBall_c : Con := fun args => match args with
  | [.str a0] => some (.need (laws_FnExactReadBall_need a0) (.leaf (laws_FnExactReadBall_mk (laws_FnExactReadBall a0))))
  | _ => none
set_option maxRecDepth 100000 in
theorem laws_FnExactReadBall_ok : FunOK Tryd.prog 8 laws_FnExactReadBall_c.fn := by
  refine con_ok (Γ := gam [(32, spec_ReadBall_c), (33, impl_ReadBall_c), (34, laws_eqBall_c)]) (gam_cons spec_ReadBall_ok (gam_cons impl_ReadBall_ok (gam_cons laws_eqBall_ok (gam_nil)))) tab_ok (by kernel_rfl) Tryd.func8 (by kernel_rfl) (by kernel_rfl) Tryd.ntmps8 Tryd.results8 (loopsOK_none rfl _) 100000 fun args t h => ?_
  unfold laws_FnExactReadBall_c at h
  split at h
  · rename_i a0
    cases h
    exact ⟨rfl, agree_need (mk := laws_FnExactReadBall_mk) (t := laws_FnExactReadBall_tree a0) (by unfold Agree; kernel_rfl)⟩
  · cases h

/-- loop.example/g01284/spec.l08From -/
def spec_l08From_tree (a0 : List Nat) : DT (Orbit) :=
  .need ((decide (0 ≤ 0) && decide (0 < ((List.length a0 : Nat) : Int)))) (
  let x0 := List.getD a0 0 default;
  .need ((decide (0 ≤ 1) && decide (1 < ((List.length a0 : Nat) : Int)))) (
  let x1 := List.getD a0 1 default;
  .need ((decide (0 ≤ 2) && decide (2 < ((List.length a0 : Nat) : Int)))) (
  let x2 := List.getD a0 2 default;
  .need ((decide (0 ≤ 3) && decide (3 < ((List.length a0 : Nat) : Int)))) (
  let x3 := List.getD a0 3 default;
  .need ((decide (0 ≤ 4) && decide (4 < ((List.length a0 : Nat) : Int)))) (
  let x4 := List.getD a0 4 default;
  .need ((decide (0 ≤ 5) && decide (5 < ((List.length a0 : Nat) : Int)))) (
  let x5 := List.getD a0 5 default;
  .leaf ((⟨x0, x1, x2, x3, x4, x5⟩ : Orbit))))))))
def spec_l08From (a0 : List Nat) : Orbit := (spec_l08From_tree a0).val
def spec_l08From_need (a0 : List Nat) : Bool := (spec_l08From_tree a0).ok
def spec_l08From_mk (p : Orbit) : Ret := ⟨.agg [.flt .f32 p.Long, .flt .f32 p.Round, .flt .f32 p.Tilt, .flt .f32 p.Node, .flt .f32 p.Peri, .flt .f32 p.Phase], []⟩
def spec_l08From_c0 : Con := fun args => match args with
  | [.vslc 1 (.flt .f32) a0] => some (.need (spec_l08From_need a0) (.leaf (spec_l08From_mk (spec_l08From a0))))
  | _ => none
set_option maxRecDepth 100000 in
theorem spec_l08From_ok0 : FunOK Tryd.prog 115 spec_l08From_c0.fn := by
  refine con_ok (Γ := gam []) (gam_nil) tab_ok (by kernel_rfl) Tryd.func115 (by kernel_rfl) (by kernel_rfl) Tryd.ntmps115 Tryd.results115 (loopsOK_none rfl _) 100000 fun args t h => ?_
  unfold spec_l08From_c0 at h
  split at h
  · rename_i a0
    cases h
    exact ⟨rfl, agree_need (mk := spec_l08From_mk) (t := spec_l08From_tree a0) (by unfold Agree; kernel_rfl)⟩
  · cases h
def spec_l08From_c : Con := fun args => spec_l08From_c0 (norms 0 [.slc (.flt .f32)] args)
set_option maxRecDepth 100000 in
theorem spec_l08From_ok : FunOK Tryd.prog 115 spec_l08From_c.fn := con_norm [.slc (.flt .f32)] spec_l08From_ok0

/-- loop.example/g01284/spec.l03Turn -/
def spec_l03Turn_tree (a0 : Nat) : DT (Bool) :=
  let x0 := fge .f32 a0 0;
  .ask x0
  (
   let x1 := flt .f32 a0 1065353216;
   .leaf x1)
  (
   .leaf false)
def spec_l03Turn (a0 : Nat) : Bool := (spec_l03Turn_tree a0).val
def spec_l03Turn_mk (p : Bool) : Ret := ⟨.bool p, []⟩
def spec_l03Turn_c : Con := fun args => match args with
  | [.flt .f32 a0] => some (.leaf (spec_l03Turn_mk (spec_l03Turn a0)))
  | _ => none
set_option maxRecDepth 100000 in
theorem spec_l03Turn_ok : FunOK Tryd.prog 97 spec_l03Turn_c.fn := by
  refine con_ok (Γ := gam []) (gam_nil) tab_ok (by kernel_rfl) Tryd.func97 (by kernel_rfl) (by kernel_rfl) Tryd.ntmps97 Tryd.results97 (loopsOK_none rfl _) 100000 fun args t h => ?_
  unfold spec_l03Turn_c at h
  split at h
  · rename_i a0
    cases h
    exact ⟨rfl, agree_tot (mk := spec_l03Turn_mk) (t := spec_l03Turn_tree a0) (by unfold Agree; kernel_rfl) (by kernel_rfl)⟩
  · cases h

/-- loop.example/g01284/spec.l03Is -/
def spec_l03Is_tree (a0 : Orbit) : DT (Bool) :=
  let x0 := spec_l01Finite a0.Long;
  .ask (!x0)
  (
   .leaf false)
  (
   let x1 := spec_l01Finite a0.Round;
   .ask (!x1)
   (
    .leaf false)
   (
    let x2 := fge .f32 a0.Tilt 0;
    .ask x2
    (
     let x3 := fle .f32 a0.Tilt 1056964608;
     .ask (!x3)
     (
      .leaf false)
     (
      let x4 := spec_l03Turn a0.Node;
      .ask (!x4)
      (
       .leaf false)
      (
       let x5 := spec_l03Turn a0.Peri;
       .ask (!x5)
       (
        .leaf false)
       (
        let x6 := fgt .f32 a0.Long 0;
        .ask x6
        (
         let x7 := fge .f32 a0.Round 0;
         .ask x7
         (
          let x8 := flt .f32 a0.Round 1065353216;
          .ask x8
          (
           let x9 := spec_l03Turn a0.Phase;
           .leaf x9)
          (
           .leaf false))
         (
          .leaf false))
        (
         let x7 := flt .f32 a0.Long 0;
         .ask x7
         (
          let x8 := fgt .f32 a0.Round 1065353216;
          .ask x8
          (
           let x9 := fge .f32 a0.Phase 3246391296;
           .ask x9
           (
            let x10 := fle .f32 a0.Phase 1098907648;
            .leaf x10)
           (
            .leaf false))
          (
           .leaf false))
         (
          .leaf false))))))
    (
     .leaf false)))
def spec_l03Is (a0 : Orbit) : Bool := (spec_l03Is_tree a0).val
def spec_l03Is_mk (p : Bool) : Ret := ⟨.bool p, []⟩
def spec_l03Is_c0 : Con := fun args => match args with
  | [.vcell [.flt .f32 a0_0, .flt .f32 a0_1, .flt .f32 a0_2, .flt .f32 a0_3, .flt .f32 a0_4, .flt .f32 a0_5] 0] => some (.leaf (spec_l03Is_mk (spec_l03Is (⟨a0_0, a0_1, a0_2, a0_3, a0_4, a0_5⟩ : Orbit))))
  | _ => none
set_option maxRecDepth 100000 in
theorem spec_l03Is_ok0 : FunOK Tryd.prog 56 spec_l03Is_c0.fn := by
  refine con_ok (Γ := gam [(94, spec_l01Finite_c), (97, spec_l03Turn_c)]) (gam_cons spec_l01Finite_ok (gam_cons spec_l03Turn_ok (gam_nil))) tab_ok (by kernel_rfl) Tryd.func56 (by kernel_rfl) (by kernel_rfl) Tryd.ntmps56 Tryd.results56 (loopsOK_none rfl _) 100000 fun args t h => ?_
  unfold spec_l03Is_c0 at h
  split at h
  · rename_i a0_0 a0_1 a0_2 a0_3 a0_4 a0_5
    cases h
    exact ⟨rfl, agree_tot (mk := spec_l03Is_mk) (t := spec_l03Is_tree (⟨a0_0, a0_1, a0_2, a0_3, a0_4, a0_5⟩ : Orbit)) (by unfold Agree; kernel_rfl) (by kernel_rfl)⟩
  · cases h
def spec_l03Is_c : Con := fun args => spec_l03Is_c0 (norms 0 [.ptr 6] args)
set_option maxRecDepth 100000 in
theorem spec_l03Is_ok : FunOK Tryd.prog 56 spec_l03Is_c.fn := con_norm [.ptr 6] spec_l03Is_ok0

/-- loop.example/g01284/spec.l03Give -/
def spec_l03Give_tree (a0 : Orbit) : DT (Orbit × Bool) :=
  let x0 := spec_l03Is (⟨a0.Long, a0.Round, a0.Tilt, a0.Node, a0.Peri, a0.Phase⟩ : Orbit);
  .ask (!x0)
  (
   .leaf ((⟨0, 0, 0, 0, 0, 0⟩ : Orbit), false))
  (
   .leaf ((⟨a0.Long, a0.Round, a0.Tilt, a0.Node, a0.Peri, a0.Phase⟩ : Orbit), true))
def spec_l03Give (a0 : Orbit) : Orbit × Bool := (spec_l03Give_tree a0).val
def spec_l03Give_mk (p : Orbit × Bool) : Ret := ⟨.tup [.agg [.flt .f32 p.1.Long, .flt .f32 p.1.Round, .flt .f32 p.1.Tilt, .flt .f32 p.1.Node, .flt .f32 p.1.Peri, .flt .f32 p.1.Phase], .bool p.2], []⟩
def spec_l03Give_c : Con := fun args => match args with
  | [.agg [.flt .f32 a0_0, .flt .f32 a0_1, .flt .f32 a0_2, .flt .f32 a0_3, .flt .f32 a0_4, .flt .f32 a0_5]] => some (.leaf (spec_l03Give_mk (spec_l03Give (⟨a0_0, a0_1, a0_2, a0_3, a0_4, a0_5⟩ : Orbit))))
  | _ => none
set_option maxRecDepth 100000 in
theorem spec_l03Give_ok : FunOK Tryd.prog 114 spec_l03Give_c.fn := by
  refine con_ok (Γ := gam [(56, spec_l03Is_c)]) (gam_cons spec_l03Is_ok (gam_nil)) tab_ok (by kernel_rfl) Tryd.func114 (by kernel_rfl) (by kernel_rfl) Tryd.ntmps114 Tryd.results114 (loopsOK_none rfl _) 100000 fun args t h => ?_
  unfold spec_l03Give_c at h
  split at h
  · rename_i a0_0 a0_1 a0_2 a0_3 a0_4 a0_5
    cases h
    exact ⟨rfl, agree_tot (mk := spec_l03Give_mk) (t := spec_l03Give_tree (⟨a0_0, a0_1, a0_2, a0_3, a0_4, a0_5⟩ : Orbit)) (by unfold Agree; kernel_rfl) (by kernel_rfl)⟩
  · cases h

/-- loop.example/g01284/spec.l08ReadOrbit -/
def spec_l08ReadOrbit_tree (a0 : (List UInt8)) : DT (Orbit × Bool) :=
  .need ((spec_l01NRead_need a0)) (
  let x0 := spec_l01NRead a0;
  .ask ((isL x0))
  (
   .skip (
   .skip (
   let x1 := ((List.length (leftD x0) : Nat) : Int);
   .skip (
   let x2 := (x1 != 6);
   .skip (
   .ask x2
   (
    .leaf ((⟨0, 0, 0, 0, 0, 0⟩ : Orbit), false))
   (
    .need ((spec_l08From_need ((leftD x0)))) (
    let x3 := spec_l08From ((leftD x0));
    let x4 := spec_l03Give (⟨x3.Long, x3.Round, x3.Tilt, x3.Node, x3.Peri, x3.Phase⟩ : Orbit);
    .leaf ((⟨x4.1.Long, x4.1.Round, x4.1.Tilt, x4.1.Node, x4.1.Peri, x4.1.Phase⟩ : Orbit), x4.2))))))))
  (
   .skip (
   .skip (
   .skip (
   .skip (
   .leaf ((⟨0, 0, 0, 0, 0, 0⟩ : Orbit), false)))))))
def spec_l08ReadOrbit (a0 : (List UInt8)) : Orbit × Bool := (spec_l08ReadOrbit_tree a0).val
def spec_l08ReadOrbit_need (a0 : (List UInt8)) : Bool := (spec_l08ReadOrbit_tree a0).ok
def spec_l08ReadOrbit_mk (p : Orbit × Bool) : Ret := ⟨.tup [.agg [.flt .f32 p.1.Long, .flt .f32 p.1.Round, .flt .f32 p.1.Tilt, .flt .f32 p.1.Node, .flt .f32 p.1.Peri, .flt .f32 p.1.Phase], .bool p.2], []⟩
def spec_l08ReadOrbit_c : Con := fun args => match args with
  | [.str a0] => some (.need (spec_l08ReadOrbit_need a0) (.leaf (spec_l08ReadOrbit_mk (spec_l08ReadOrbit a0))))
  | _ => none
set_option maxRecDepth 100000 in
theorem spec_l08ReadOrbit_ok : FunOK Tryd.prog 76 spec_l08ReadOrbit_c.fn := by
  refine con_ok (Γ := gam [(111, spec_l01NRead_c), (115, spec_l08From_c), (114, spec_l03Give_c)]) (gam_cons spec_l01NRead_ok (gam_cons spec_l08From_ok (gam_cons spec_l03Give_ok (gam_nil)))) tab_ok (by kernel_rfl) Tryd.func76 (by kernel_rfl) (by kernel_rfl) Tryd.ntmps76 Tryd.results76 (loopsOK_none rfl _) 100000 fun args t h => ?_
  unfold spec_l08ReadOrbit_c at h
  split at h
  · rename_i a0
    cases h
    exact ⟨rfl, agree_need (mk := spec_l08ReadOrbit_mk) (t := spec_l08ReadOrbit_tree a0) (by unfold Agree; kernel_rfl)⟩
  · cases h

/-- loop.example/g01284/spec.ReadOrbit -/
def spec_ReadOrbit_tree (a0 : (List UInt8)) : DT (Orbit × Bool) :=
  .need ((spec_l08ReadOrbit_need a0)) (
  let x0 := spec_l08ReadOrbit a0;
  .leaf ((⟨x0.1.Long, x0.1.Round, x0.1.Tilt, x0.1.Node, x0.1.Peri, x0.1.Phase⟩ : Orbit), x0.2))
def spec_ReadOrbit (a0 : (List UInt8)) : Orbit × Bool := (spec_ReadOrbit_tree a0).val
def spec_ReadOrbit_need (a0 : (List UInt8)) : Bool := (spec_ReadOrbit_tree a0).ok
def spec_ReadOrbit_mk (p : Orbit × Bool) : Ret := ⟨.tup [.agg [.flt .f32 p.1.Long, .flt .f32 p.1.Round, .flt .f32 p.1.Tilt, .flt .f32 p.1.Node, .flt .f32 p.1.Peri, .flt .f32 p.1.Phase], .bool p.2], []⟩
def spec_ReadOrbit_c : Con := fun args => match args with
  | [.str a0] => some (.need (spec_ReadOrbit_need a0) (.leaf (spec_ReadOrbit_mk (spec_ReadOrbit a0))))
  | _ => none
set_option maxRecDepth 100000 in
theorem spec_ReadOrbit_ok : FunOK Tryd.prog 35 spec_ReadOrbit_c.fn := by
  refine con_ok (Γ := gam [(76, spec_l08ReadOrbit_c)]) (gam_cons spec_l08ReadOrbit_ok (gam_nil)) tab_ok (by kernel_rfl) Tryd.func35 (by kernel_rfl) (by kernel_rfl) Tryd.ntmps35 Tryd.results35 (loopsOK_none rfl _) 100000 fun args t h => ?_
  unfold spec_ReadOrbit_c at h
  split at h
  · rename_i a0
    cases h
    exact ⟨rfl, agree_need (mk := spec_ReadOrbit_mk) (t := spec_ReadOrbit_tree a0) (by unfold Agree; kernel_rfl)⟩
  · cases h

/-- loop.example/g01284/impl.orbitFrom -/
def impl_orbitFrom_tree (a0 : List Nat) : DT (Orbit) :=
  .need ((decide (0 ≤ 0) && decide (0 < ((List.length a0 : Nat) : Int)))) (
  let x0 := List.getD a0 0 default;
  .need ((decide (0 ≤ 1) && decide (1 < ((List.length a0 : Nat) : Int)))) (
  let x1 := List.getD a0 1 default;
  .need ((decide (0 ≤ 2) && decide (2 < ((List.length a0 : Nat) : Int)))) (
  let x2 := List.getD a0 2 default;
  .need ((decide (0 ≤ 3) && decide (3 < ((List.length a0 : Nat) : Int)))) (
  let x3 := List.getD a0 3 default;
  .need ((decide (0 ≤ 4) && decide (4 < ((List.length a0 : Nat) : Int)))) (
  let x4 := List.getD a0 4 default;
  .need ((decide (0 ≤ 5) && decide (5 < ((List.length a0 : Nat) : Int)))) (
  let x5 := List.getD a0 5 default;
  .leaf ((⟨x0, x1, x2, x3, x4, x5⟩ : Orbit))))))))
def impl_orbitFrom (a0 : List Nat) : Orbit := (impl_orbitFrom_tree a0).val
def impl_orbitFrom_need (a0 : List Nat) : Bool := (impl_orbitFrom_tree a0).ok
def impl_orbitFrom_mk (p : Orbit) : Ret := ⟨.agg [.flt .f32 p.Long, .flt .f32 p.Round, .flt .f32 p.Tilt, .flt .f32 p.Node, .flt .f32 p.Peri, .flt .f32 p.Phase], []⟩
def impl_orbitFrom_c0 : Con := fun args => match args with
  | [.vslc 1 (.flt .f32) a0] => some (.need (impl_orbitFrom_need a0) (.leaf (impl_orbitFrom_mk (impl_orbitFrom a0))))
  | _ => none
set_option maxRecDepth 100000 in
theorem impl_orbitFrom_ok0 : FunOK Tryd.prog 77 impl_orbitFrom_c0.fn := by
  refine con_ok (Γ := gam []) (gam_nil) tab_ok (by kernel_rfl) Tryd.func77 (by kernel_rfl) (by kernel_rfl) Tryd.ntmps77 Tryd.results77 (loopsOK_none rfl _) 100000 fun args t h => ?_
  unfold impl_orbitFrom_c0 at h
  split at h
  · rename_i a0
    cases h
    exact ⟨rfl, agree_need (mk := impl_orbitFrom_mk) (t := impl_orbitFrom_tree a0) (by unfold Agree; kernel_rfl)⟩
  · cases h
def impl_orbitFrom_c : Con := fun args => impl_orbitFrom_c0 (norms 0 [.slc (.flt .f32)] args)
set_option maxRecDepth 100000 in
theorem impl_orbitFrom_ok : FunOK Tryd.prog 77 impl_orbitFrom_c.fn := con_norm [.slc (.flt .f32)] impl_orbitFrom_ok0

/-- loop.example/g01284/impl.isTurn -/
def impl_isTurn_tree (a0 : Nat) : DT (Bool) :=
  let x0 := fge .f32 a0 0;
  .ask x0
  (
   let x1 := flt .f32 a0 1065353216;
   .leaf x1)
  (
   .leaf false)
def impl_isTurn (a0 : Nat) : Bool := (impl_isTurn_tree a0).val
def impl_isTurn_mk (p : Bool) : Ret := ⟨.bool p, []⟩
def impl_isTurn_c : Con := fun args => match args with
  | [.flt .f32 a0] => some (.leaf (impl_isTurn_mk (impl_isTurn a0)))
  | _ => none
set_option maxRecDepth 100000 in
theorem impl_isTurn_ok : FunOK Tryd.prog 99 impl_isTurn_c.fn := by
  refine con_ok (Γ := gam []) (gam_nil) tab_ok (by kernel_rfl) Tryd.func99 (by kernel_rfl) (by kernel_rfl) Tryd.ntmps99 Tryd.results99 (loopsOK_none rfl _) 100000 fun args t h => ?_
  unfold impl_isTurn_c at h
  split at h
  · rename_i a0
    cases h
    exact ⟨rfl, agree_tot (mk := impl_isTurn_mk) (t := impl_isTurn_tree a0) (by unfold Agree; kernel_rfl) (by kernel_rfl)⟩
  · cases h

/-- (loop.example/g01284/impl.Orbit).isEllipse -/
def impl_Orbit_isEllipse_tree (a0 : Orbit) : DT (Bool) :=
  let x0 := fgt .f32 a0.Long 0;
  .ask x0
  (
   let x1 := fge .f32 a0.Round 0;
   .ask x1
   (
    let x2 := flt .f32 a0.Round 1065353216;
    .ask x2
    (
     let x3 := impl_isTurn a0.Phase;
     .leaf x3)
    (
     .leaf false))
   (
    .leaf false))
  (
   .leaf false)
def impl_Orbit_isEllipse (a0 : Orbit) : Bool := (impl_Orbit_isEllipse_tree a0).val
def impl_Orbit_isEllipse_mk (p : Bool) : Ret := ⟨.bool p, []⟩
def impl_Orbit_isEllipse_c : Con := fun args => match args with
  | [.agg [.flt .f32 a0_0, .flt .f32 a0_1, .flt .f32 a0_2, .flt .f32 a0_3, .flt .f32 a0_4, .flt .f32 a0_5]] => some (.leaf (impl_Orbit_isEllipse_mk (impl_Orbit_isEllipse (⟨a0_0, a0_1, a0_2, a0_3, a0_4, a0_5⟩ : Orbit))))
  | _ => none
set_option maxRecDepth 100000 in
theorem impl_Orbit_isEllipse_ok : FunOK Tryd.prog 100 impl_Orbit_isEllipse_c.fn := by
  refine con_ok (Γ := gam [(99, impl_isTurn_c)]) (gam_cons impl_isTurn_ok (gam_nil)) tab_ok (by kernel_rfl) Tryd.func100 (by kernel_rfl) (by kernel_rfl) Tryd.ntmps100 Tryd.results100 (loopsOK_none rfl _) 100000 fun args t h => ?_
  unfold impl_Orbit_isEllipse_c at h
  split at h
  · rename_i a0_0 a0_1 a0_2 a0_3 a0_4 a0_5
    cases h
    exact ⟨rfl, agree_tot (mk := impl_Orbit_isEllipse_mk) (t := impl_Orbit_isEllipse_tree (⟨a0_0, a0_1, a0_2, a0_3, a0_4, a0_5⟩ : Orbit)) (by unfold Agree; kernel_rfl) (by kernel_rfl)⟩
  · cases h

/-- (loop.example/g01284/impl.Orbit).isBranch -/
def impl_Orbit_isBranch_tree (a0 : Orbit) : DT (Bool) :=
  let x0 := flt .f32 a0.Long 0;
  .ask x0
  (
   let x1 := fgt .f32 a0.Round 1065353216;
   .ask x1
   (
    let x2 := fge .f32 a0.Phase 3246391296;
    .ask x2
    (
     let x3 := fle .f32 a0.Phase 1098907648;
     .leaf x3)
    (
     .leaf false))
   (
    .leaf false))
  (
   .leaf false)
def impl_Orbit_isBranch (a0 : Orbit) : Bool := (impl_Orbit_isBranch_tree a0).val
def impl_Orbit_isBranch_mk (p : Bool) : Ret := ⟨.bool p, []⟩
def impl_Orbit_isBranch_c : Con := fun args => match args with
  | [.agg [.flt .f32 a0_0, .flt .f32 a0_1, .flt .f32 a0_2, .flt .f32 a0_3, .flt .f32 a0_4, .flt .f32 a0_5]] => some (.leaf (impl_Orbit_isBranch_mk (impl_Orbit_isBranch (⟨a0_0, a0_1, a0_2, a0_3, a0_4, a0_5⟩ : Orbit))))
  | _ => none
set_option maxRecDepth 100000 in
theorem impl_Orbit_isBranch_ok : FunOK Tryd.prog 101 impl_Orbit_isBranch_c.fn := by
  refine con_ok (Γ := gam []) (gam_nil) tab_ok (by kernel_rfl) Tryd.func101 (by kernel_rfl) (by kernel_rfl) Tryd.ntmps101 Tryd.results101 (loopsOK_none rfl _) 100000 fun args t h => ?_
  unfold impl_Orbit_isBranch_c at h
  split at h
  · rename_i a0_0 a0_1 a0_2 a0_3 a0_4 a0_5
    cases h
    exact ⟨rfl, agree_tot (mk := impl_Orbit_isBranch_mk) (t := impl_Orbit_isBranch_tree (⟨a0_0, a0_1, a0_2, a0_3, a0_4, a0_5⟩ : Orbit)) (by unfold Agree; kernel_rfl) (by kernel_rfl)⟩
  · cases h

/-- loop.example/g01284/impl.ValidOrbit -/
def impl_ValidOrbit_tree (a0 : Orbit) : DT (Bool) :=
  .need ((impl_areFinite_need ([a0.Long, a0.Round, a0.Tilt, a0.Node, a0.Peri, a0.Phase]))) (
  let x0 := impl_areFinite ([a0.Long, a0.Round, a0.Tilt, a0.Node, a0.Peri, a0.Phase]);
  .ask x0
  (
   let x1 := fge .f32 a0.Tilt 0;
   .ask x1
   (
    let x2 := fle .f32 a0.Tilt 1056964608;
    .ask x2
    (
     let x3 := impl_isTurn a0.Node;
     .ask x3
     (
      let x4 := impl_isTurn a0.Peri;
      .ask x4
      (
       let x5 := impl_Orbit_isEllipse (⟨a0.Long, a0.Round, a0.Tilt, a0.Node, a0.Peri, a0.Phase⟩ : Orbit);
       .ask x5
       (
        .leaf true)
       (
        let x6 := impl_Orbit_isBranch (⟨a0.Long, a0.Round, a0.Tilt, a0.Node, a0.Peri, a0.Phase⟩ : Orbit);
        .leaf x6))
      (
       .leaf false))
     (
      .leaf false))
    (
     .leaf false))
   (
    .leaf false))
  (
   .leaf false))
def impl_ValidOrbit (a0 : Orbit) : Bool := (impl_ValidOrbit_tree a0).val
def impl_ValidOrbit_need (a0 : Orbit) : Bool := (impl_ValidOrbit_tree a0).ok
def impl_ValidOrbit_mk (p : Bool) : Ret := ⟨.bool p, []⟩
def impl_ValidOrbit_c : Con := fun args => match args with
  | [.agg [.flt .f32 a0_0, .flt .f32 a0_1, .flt .f32 a0_2, .flt .f32 a0_3, .flt .f32 a0_4, .flt .f32 a0_5]] => some (.need (impl_ValidOrbit_need (⟨a0_0, a0_1, a0_2, a0_3, a0_4, a0_5⟩ : Orbit)) (.leaf (impl_ValidOrbit_mk (impl_ValidOrbit (⟨a0_0, a0_1, a0_2, a0_3, a0_4, a0_5⟩ : Orbit)))))
  | _ => none
set_option maxRecDepth 100000 in
theorem impl_ValidOrbit_ok : FunOK Tryd.prog 59 impl_ValidOrbit_c.fn := by
  refine con_ok (Γ := gam [(96, impl_areFinite_c), (99, impl_isTurn_c), (100, impl_Orbit_isEllipse_c), (101, impl_Orbit_isBranch_c)]) (gam_cons impl_areFinite_ok (gam_cons impl_isTurn_ok (gam_cons impl_Orbit_isEllipse_ok (gam_cons impl_Orbit_isBranch_ok (gam_nil))))) tab_ok (by kernel_rfl) Tryd.func59 (by kernel_rfl) (by kernel_rfl) Tryd.ntmps59 Tryd.results59 (loopsOK_none rfl _) 100000 fun args t h => ?_
  unfold impl_ValidOrbit_c at h
  split at h
  · rename_i a0_0 a0_1 a0_2 a0_3 a0_4 a0_5
    cases h
    exact ⟨rfl, agree_need (mk := impl_ValidOrbit_mk) (t := impl_ValidOrbit_tree (⟨a0_0, a0_1, a0_2, a0_3, a0_4, a0_5⟩ : Orbit)) (by unfold Agree; kernel_rfl)⟩
  · cases h

/-- (loop.example/g01284/impl.Orbit).valid -/
def impl_Orbit_valid_tree (a0 : Orbit) : DT (Orbit × Bool) :=
  .need ((impl_ValidOrbit_need (⟨a0.Long, a0.Round, a0.Tilt, a0.Node, a0.Peri, a0.Phase⟩ : Orbit))) (
  let x0 := impl_ValidOrbit (⟨a0.Long, a0.Round, a0.Tilt, a0.Node, a0.Peri, a0.Phase⟩ : Orbit);
  .ask (!x0)
  (
   .leaf ((⟨0, 0, 0, 0, 0, 0⟩ : Orbit), false))
  (
   .leaf ((⟨a0.Long, a0.Round, a0.Tilt, a0.Node, a0.Peri, a0.Phase⟩ : Orbit), true)))
def impl_Orbit_valid (a0 : Orbit) : Orbit × Bool := (impl_Orbit_valid_tree a0).val
def impl_Orbit_valid_need (a0 : Orbit) : Bool := (impl_Orbit_valid_tree a0).ok
def impl_Orbit_valid_mk (p : Orbit × Bool) : Ret := ⟨.tup [.agg [.flt .f32 p.1.Long, .flt .f32 p.1.Round, .flt .f32 p.1.Tilt, .flt .f32 p.1.Node, .flt .f32 p.1.Peri, .flt .f32 p.1.Phase], .bool p.2], []⟩
def impl_Orbit_valid_c : Con := fun args => match args with
  | [.agg [.flt .f32 a0_0, .flt .f32 a0_1, .flt .f32 a0_2, .flt .f32 a0_3, .flt .f32 a0_4, .flt .f32 a0_5]] => some (.need (impl_Orbit_valid_need (⟨a0_0, a0_1, a0_2, a0_3, a0_4, a0_5⟩ : Orbit)) (.leaf (impl_Orbit_valid_mk (impl_Orbit_valid (⟨a0_0, a0_1, a0_2, a0_3, a0_4, a0_5⟩ : Orbit)))))
  | _ => none
set_option maxRecDepth 100000 in
theorem impl_Orbit_valid_ok : FunOK Tryd.prog 78 impl_Orbit_valid_c.fn := by
  refine con_ok (Γ := gam [(59, impl_ValidOrbit_c)]) (gam_cons impl_ValidOrbit_ok (gam_nil)) tab_ok (by kernel_rfl) Tryd.func78 (by kernel_rfl) (by kernel_rfl) Tryd.ntmps78 Tryd.results78 (loopsOK_none rfl _) 100000 fun args t h => ?_
  unfold impl_Orbit_valid_c at h
  split at h
  · rename_i a0_0 a0_1 a0_2 a0_3 a0_4 a0_5
    cases h
    exact ⟨rfl, agree_need (mk := impl_Orbit_valid_mk) (t := impl_Orbit_valid_tree (⟨a0_0, a0_1, a0_2, a0_3, a0_4, a0_5⟩ : Orbit)) (by unfold Agree; kernel_rfl)⟩
  · cases h

/-- loop.example/g01284/impl.ReadOrbit -/
def impl_ReadOrbit_tree (a0 : (List UInt8)) : DT (Orbit × Bool) :=
  .need ((impl_ReadNumbers_need a0)) (
  let x0 := impl_ReadNumbers a0;
  .ask ((isL x0))
  (
   .skip (
   .skip (
   let x1 := ((List.length (leftD x0) : Nat) : Int);
   .skip (
   let x2 := (x1 != 6);
   .skip (
   .ask x2
   (
    .leaf ((⟨0, 0, 0, 0, 0, 0⟩ : Orbit), false))
   (
    .need ((impl_orbitFrom_need ((leftD x0)))) (
    let x3 := impl_orbitFrom ((leftD x0));
    .need ((impl_Orbit_valid_need (⟨x3.Long, x3.Round, x3.Tilt, x3.Node, x3.Peri, x3.Phase⟩ : Orbit))) (
    let x4 := impl_Orbit_valid (⟨x3.Long, x3.Round, x3.Tilt, x3.Node, x3.Peri, x3.Phase⟩ : Orbit);
    .leaf ((⟨x4.1.Long, x4.1.Round, x4.1.Tilt, x4.1.Node, x4.1.Peri, x4.1.Phase⟩ : Orbit), x4.2)))))))))
  (
   .skip (
   .skip (
   .skip (
   .skip (
   .leaf ((⟨0, 0, 0, 0, 0, 0⟩ : Orbit), false)))))))
def impl_ReadOrbit (a0 : (List UInt8)) : Orbit × Bool := (impl_ReadOrbit_tree a0).val
def impl_ReadOrbit_need (a0 : (List UInt8)) : Bool := (impl_ReadOrbit_tree a0).ok
def impl_ReadOrbit_mk (p : Orbit × Bool) : Ret := ⟨.tup [.agg [.flt .f32 p.1.Long, .flt .f32 p.1.Round, .flt .f32 p.1.Tilt, .flt .f32 p.1.Node, .flt .f32 p.1.Peri, .flt .f32 p.1.Phase], .bool p.2], []⟩
def impl_ReadOrbit_c : Con := fun args => match args with
  | [.str a0] => some (.need (impl_ReadOrbit_need a0) (.leaf (impl_ReadOrbit_mk (impl_ReadOrbit a0))))
  | _ => none
set_option maxRecDepth 100000 in
theorem impl_ReadOrbit_ok : FunOK Tryd.prog 36 impl_ReadOrbit_c.fn := by
  refine con_ok (Γ := gam [(74, impl_ReadNumbers_c), (77, impl_orbitFrom_c), (78, impl_Orbit_valid_c)]) (gam_cons impl_ReadNumbers_ok (gam_cons impl_orbitFrom_ok (gam_cons impl_Orbit_valid_ok (gam_nil)))) tab_ok (by kernel_rfl) Tryd.func36 (by kernel_rfl) (by kernel_rfl) Tryd.ntmps36 Tryd.results36 (loopsOK_none rfl _) 100000 fun args t h => ?_
  unfold impl_ReadOrbit_c at h
  split at h
  · rename_i a0
    cases h
    exact ⟨rfl, agree_need (mk := impl_ReadOrbit_mk) (t := impl_ReadOrbit_tree a0) (by unfold Agree; kernel_rfl)⟩
  · cases h

/-- loop.example/g01284/laws.eqOrbit -/
def laws_eqOrbit_tree (a0 : Orbit) (a1 : Orbit) : DT (Bool) :=
  .need ((fconvOk .f32 a0.Long .f64)) (
  let x0 := fconv .f32 a0.Long .f64;
  .need ((fconvOk .f32 a1.Long .f64)) (
  let x1 := fconv .f32 a1.Long .f64;
  let x2 := laws_sameFloat x0 x1;
  .ask (!x2)
  (
   .leaf false)
  (
   .need ((fconvOk .f32 a0.Round .f64)) (
   let x3 := fconv .f32 a0.Round .f64;
   .need ((fconvOk .f32 a1.Round .f64)) (
   let x4 := fconv .f32 a1.Round .f64;
   let x5 := laws_sameFloat x3 x4;
   .ask (!x5)
   (
    .leaf false)
   (
    .need ((fconvOk .f32 a0.Tilt .f64)) (
    let x6 := fconv .f32 a0.Tilt .f64;
    .need ((fconvOk .f32 a1.Tilt .f64)) (
    let x7 := fconv .f32 a1.Tilt .f64;
    let x8 := laws_sameFloat x6 x7;
    .ask (!x8)
    (
     .leaf false)
    (
     .need ((fconvOk .f32 a0.Node .f64)) (
     let x9 := fconv .f32 a0.Node .f64;
     .need ((fconvOk .f32 a1.Node .f64)) (
     let x10 := fconv .f32 a1.Node .f64;
     let x11 := laws_sameFloat x9 x10;
     .ask (!x11)
     (
      .leaf false)
     (
      .need ((fconvOk .f32 a0.Peri .f64)) (
      let x12 := fconv .f32 a0.Peri .f64;
      .need ((fconvOk .f32 a1.Peri .f64)) (
      let x13 := fconv .f32 a1.Peri .f64;
      let x14 := laws_sameFloat x12 x13;
      .ask (!x14)
      (
       .leaf false)
      (
       .need ((fconvOk .f32 a0.Phase .f64)) (
       let x15 := fconv .f32 a0.Phase .f64;
       .need ((fconvOk .f32 a1.Phase .f64)) (
       let x16 := fconv .f32 a1.Phase .f64;
       let x17 := laws_sameFloat x15 x16;
       .ask (!x17)
       (
        .leaf false)
       (
        .leaf true))))))))))))))))))
def laws_eqOrbit (a0 : Orbit) (a1 : Orbit) : Bool := (laws_eqOrbit_tree a0 a1).val
def laws_eqOrbit_need (a0 : Orbit) (a1 : Orbit) : Bool := (laws_eqOrbit_tree a0 a1).ok
def laws_eqOrbit_mk (p : Bool) : Ret := ⟨.bool p, []⟩
def laws_eqOrbit_c : Con := fun args => match args with
  | [.agg [.flt .f32 a0_0, .flt .f32 a0_1, .flt .f32 a0_2, .flt .f32 a0_3, .flt .f32 a0_4, .flt .f32 a0_5], .agg [.flt .f32 a1_0, .flt .f32 a1_1, .flt .f32 a1_2, .flt .f32 a1_3, .flt .f32 a1_4, .flt .f32 a1_5]] => some (.need (laws_eqOrbit_need (⟨a0_0, a0_1, a0_2, a0_3, a0_4, a0_5⟩ : Orbit) (⟨a1_0, a1_1, a1_2, a1_3, a1_4, a1_5⟩ : Orbit)) (.leaf (laws_eqOrbit_mk (laws_eqOrbit (⟨a0_0, a0_1, a0_2, a0_3, a0_4, a0_5⟩ : Orbit) (⟨a1_0, a1_1, a1_2, a1_3, a1_4, a1_5⟩ : Orbit)))))
  | _ => none
set_option maxRecDepth 100000 in
theorem laws_eqOrbit_ok : FunOK Tryd.prog 37 laws_eqOrbit_c.fn := by
  refine con_ok (Γ := gam [(75, laws_sameFloat_c)]) (gam_cons laws_sameFloat_ok (gam_nil)) tab_ok (by kernel_rfl) Tryd.func37 (by kernel_rfl) (by kernel_rfl) Tryd.ntmps37 Tryd.results37 (loopsOK_none rfl _) 100000 fun args t h => ?_
  unfold laws_eqOrbit_c at h
  split at h
  · rename_i a0_0 a0_1 a0_2 a0_3 a0_4 a0_5 a1_0 a1_1 a1_2 a1_3 a1_4 a1_5
    cases h
    exact ⟨rfl, agree_need (mk := laws_eqOrbit_mk) (t := laws_eqOrbit_tree (⟨a0_0, a0_1, a0_2, a0_3, a0_4, a0_5⟩ : Orbit) (⟨a1_0, a1_1, a1_2, a1_3, a1_4, a1_5⟩ : Orbit)) (by unfold Agree; kernel_rfl)⟩
  · cases h

/-- loop.example/g01284/laws.FnExactReadOrbit -/
def laws_FnExactReadOrbit_tree (a0 : (List UInt8)) : DT (Bool) :=
  let x0 := ((List.length a0 : Nat) : Int);
  let x1 := decide (x0 > 1048576);
  .ask x1
  (
   .leaf true)
  (
   .need ((spec_ReadOrbit_need a0)) (
   let x2 := spec_ReadOrbit a0;
   .need ((impl_ReadOrbit_need a0)) (
   let x3 := impl_ReadOrbit a0;
   .need ((laws_eqOrbit_need (⟨x3.1.Long, x3.1.Round, x3.1.Tilt, x3.1.Node, x3.1.Peri, x3.1.Phase⟩ : Orbit) (⟨x2.1.Long, x2.1.Round, x2.1.Tilt, x2.1.Node, x2.1.Peri, x2.1.Phase⟩ : Orbit))) (
   let x4 := laws_eqOrbit (⟨x3.1.Long, x3.1.Round, x3.1.Tilt, x3.1.Node, x3.1.Peri, x3.1.Phase⟩ : Orbit) (⟨x2.1.Long, x2.1.Round, x2.1.Tilt, x2.1.Node, x2.1.Peri, x2.1.Phase⟩ : Orbit);
   .ask (!x4)
   (
    .leaf false)
   (
    let x5 := (!(x3.2 == x2.2));
    .ask x5
    (
     .leaf false)
    (
     .leaf true))))))
def laws_FnExactReadOrbit (a0 : (List UInt8)) : Bool := (laws_FnExactReadOrbit_tree a0).val
def laws_FnExactReadOrbit_need (a0 : (List UInt8)) : Bool := (laws_FnExactReadOrbit_tree a0).ok
def laws_FnExactReadOrbit_mk (p : Bool) : Ret := ⟨.bool p, []⟩
def laws_FnExactReadOrbit_c : Con := fun args => match args with
  | [.str a0] => some (.need (laws_FnExactReadOrbit_need a0) (.leaf (laws_FnExactReadOrbit_mk (laws_FnExactReadOrbit a0))))
  | _ => none
set_option maxRecDepth 100000 in
theorem laws_FnExactReadOrbit_ok : FunOK Tryd.prog 9 laws_FnExactReadOrbit_c.fn := by
  refine con_ok (Γ := gam [(35, spec_ReadOrbit_c), (36, impl_ReadOrbit_c), (37, laws_eqOrbit_c)]) (gam_cons spec_ReadOrbit_ok (gam_cons impl_ReadOrbit_ok (gam_cons laws_eqOrbit_ok (gam_nil)))) tab_ok (by kernel_rfl) Tryd.func9 (by kernel_rfl) (by kernel_rfl) Tryd.ntmps9 Tryd.results9 (loopsOK_none rfl _) 100000 fun args t h => ?_
  unfold laws_FnExactReadOrbit_c at h
  split at h
  · rename_i a0
    cases h
    exact ⟨rfl, agree_need (mk := laws_FnExactReadOrbit_mk) (t := laws_FnExactReadOrbit_tree a0) (by unfold Agree; kernel_rfl)⟩
  · cases h

end
end Go.Proofs.YtcipkfndnkmjlaaDoor
