/- THE WALK, BY A PROGRAM: typed functions, and that the code is they. -/
import Derived.Test.YtacelaaifaffpaaDoorRead
namespace Go.Proofs.YtacelaaifaffpaaDoor
set_option linter.unusedVariables false
set_option linter.unusedSimpArgs false
open Go.Extern
noncomputable section

set_option maxRecDepth 100000 in
theorem math_Float32frombits_ok : FunOK Tryd.prog 22 math_Float32frombits_c.fn := frombits32_ok (run_callFunc_extern Tryd.func22 (by kernel_rfl) (by kernel_rfl) (by kernel_rfl) (by kernel_rfl))

set_option maxRecDepth 100000 in
theorem internal_bytealg_CountString_ok : FunOK Tryd.prog 56 internal_bytealg_CountString_c.fn := countString_ok (run_callFunc_extern Tryd.func56 (by kernel_rfl) (by kernel_rfl) (by kernel_rfl) (by kernel_rfl))

set_option maxRecDepth 100000 in
theorem internal_bytealg_IndexByteString_ok : FunOK Tryd.prog 86 internal_bytealg_IndexByteString_c.fn := indexByteString_ok (run_callFunc_extern Tryd.func86 (by kernel_rfl) (by kernel_rfl) (by kernel_rfl) (by kernel_rfl))

set_option maxRecDepth 100000 in
theorem math_Float64bits_ok : FunOK Tryd.prog 91 math_Float64bits_c.fn := bits64_ok (run_callFunc_extern Tryd.func91 (by kernel_rfl) (by kernel_rfl) (by kernel_rfl) (by kernel_rfl))

set_option maxRecDepth 100000 in
theorem math_Float64frombits_ok : FunOK Tryd.prog 90 math_Float64frombits_c.fn := frombits64_ok (run_callFunc_extern Tryd.func90 (by kernel_rfl) (by kernel_rfl) (by kernel_rfl) (by kernel_rfl))

/-- a loop of spec_l01Cut -/
def spec_l01Cut_loop0_step (p : (List UInt8) × Int) (s : Int × Int × List (List UInt8)) : Round (Int × Int × List (List UInt8)) (List (List UInt8)) :=
  let x0 := ((List.length p.1 : Nat) : Int);
  let x1 := decide (s.2.1 ≤ x0);
  .ask x1
  (
   let x2 := ((List.length p.1 : Nat) : Int);
   let x3 := (s.2.1 == x2);
   .ask x3
   (
    .need ((decide (0 ≤ s.2.1) && decide (s.2.1 ≤ ((List.length p.1 : Nat) : Int)))) (
    .need ((decide (0 ≤ s.1) && decide (s.1 ≤ (((Int.toNat s.2.1) : Nat) : Int)))) (
    let x4 := List.drop (Int.toNat s.1) (List.take (Int.toNat s.2.1) p.1);
    .need ((decide ((List.length s.2.2 + List.length [x4]) * 16 ≤ 140737488355328) && decide (List.length s.2.2 + List.length [x4] ≤ 9223372036854775807))) (
    let x5 := s.2.2 ++ [x4];
    let x6 := IntKind.wrap .i64 (s.2.1 + 1);
    let x7 := IntKind.wrap .i64 (s.2.1 + 1);
    .leaf (.inl (x6, x7, x5), [169])))))
   (
    .need ((decide (0 ≤ s.2.1) && decide (s.2.1 < ((List.length p.1 : Nat) : Int)))) (
    let x4 := ((List.getD (p.1 : List UInt8) (Int.toNat s.2.1) 0).toNat : Int);
    let x5 := (x4 == p.2);
    .ask x5
    (
     .need ((decide (0 ≤ s.2.1) && decide (s.2.1 ≤ ((List.length p.1 : Nat) : Int)))) (
     .need ((decide (0 ≤ s.1) && decide (s.1 ≤ (((Int.toNat s.2.1) : Nat) : Int)))) (
     let x6 := List.drop (Int.toNat s.1) (List.take (Int.toNat s.2.1) p.1);
     .need ((decide ((List.length s.2.2 + List.length [x6]) * 16 ≤ 140737488355328) && decide (List.length s.2.2 + List.length [x6] ≤ 9223372036854775807))) (
     let x7 := s.2.2 ++ [x6];
     let x8 := IntKind.wrap .i64 (s.2.1 + 1);
     let x9 := IntKind.wrap .i64 (s.2.1 + 1);
     .leaf (.inl (x8, x9, x7), [169])))))
    (
     let x6 := IntKind.wrap .i64 (s.2.1 + 1);
     .leaf (.inl (s.1, x6, s.2.2), [0])))))
  (
   .leaf (.inr s.2.2, [0]))
def spec_l01Cut_loop0_L (p : (List UInt8) × Int) : LoopS (Int × Int × List (List UInt8)) (List (List UInt8)) := { tl := fun s => [.str p.1, .int .u8 p.2, .junk, .junk, .junk, .own 0, .int .i64 s.1, .int .i64 s.2.1], hl := fun s => [some (.typed 9 .str s.2.2)], ex := fun r => .exit 0, otl := fun r => [.junk, .junk, .junk, .junk, .junk, .own 0], ohl := fun r => [some (.typed 9 .str r)] }
def spec_l01Cut_loop0_ext : St → Option (((List UInt8) × Int) × (Int × Int × List (List UInt8)) × List Nat) := fun S => match (S.tm 0).unK, (S.tm 1).unK, (S.tm 5).unK, (S.tm 6).unK, (S.tm 7).unK with
  | .str q0, .int .u8 q1, .own i0, .int .i64 q2, .int .i64 q3 => (match S.hp i0 with
    | some (.typed 9 .str q4) => some ((q0, q1), (q2, q3, q4), [i0])
    | _ => none)
  | _, _, _, _, _ => none
def spec_l01Cut_loop0_post (p : (List UInt8) × Int) (r : List (List UInt8)) : DT (Ex × St) := .leaf (.exit 0, LSt [.junk, .junk, .junk, .junk, .junk, .own 0] [some (.typed 9 .str r)])
def spec_l01Cut_loop0 (p : (List UInt8) × Int) (s : Int × Int × List (List UInt8)) : List (List UInt8) := loopVal (spec_l01Cut_loop0_step p) s
def spec_l01Cut_loop0_ends (p : (List UInt8) × Int) (s : Int × Int × List (List UInt8)) : Bool := loopEnds (spec_l01Cut_loop0_step p) s
def spec_l01Cut_loop0_F : LoopF := loopF spec_l01Cut_loop0_step spec_l01Cut_loop0_ext spec_l01Cut_loop0_post
theorem spec_l01Cut_loop0_hext : ∀ S p s fl, spec_l01Cut_loop0_ext S = some (p, s, fl) → Norm S fl ((spec_l01Cut_loop0_L p).tl s) ((spec_l01Cut_loop0_L p).hl s) (spec_l01Cut_loop0_L p).gl := by
  intro S p s fl h
  unfold spec_l01Cut_loop0_ext at h
  (repeat' split at h) <;> first
    | (cases h; constructor <;> simp_all [spec_l01Cut_loop0_L, keepT, keepH, rens, renH, PV.ren, Blk.ren, fOf, lget, nodup, natIn, lenEq, gtm, PV.unK])
    | cases h
theorem spec_l01Cut_loop0_hpost : ∀ p r e S', (spec_l01Cut_loop0_post p r).get = some (e, S') → e = (spec_l01Cut_loop0_L p).ex r ∧ S' = LSt ((spec_l01Cut_loop0_L p).otl r) ((spec_l01Cut_loop0_L p).ohl r) ((spec_l01Cut_loop0_L p).ogl r) := by
  intro p r e S' h
  unfold spec_l01Cut_loop0_post at h
  simp only [DT.get, Option.some.injEq, Prod.mk.injEq] at h; exact ⟨h.1.symm, h.2.symm⟩

def spec_l01Cut_loops : Nat → Option LoopF := loopTab [(4, spec_l01Cut_loop0_F)]
set_option maxRecDepth 100000 in
theorem spec_l01Cut_l0 : LoopOK Tryd.prog ⟨gam [], tab, 36, spec_l01Cut_loops⟩ (lp Tryd.f17 0) :=
  loopOK_some (F := spec_l01Cut_loop0_F) (by kernel_rfl) (loopF_ok (E := ⟨gam [], tab, 36, spec_l01Cut_loops⟩) ⟨gam_nil, tab_ok, by kernel_rfl⟩ (fuel := 100000) (loopsOK_list (l := []) (by kernel_rfl) trivial) (L := spec_l01Cut_loop0_L) (fun p s => by unfold AgreeL; exact ⟨by kernel_rfl, by kernel_rfl⟩) (fun _ _ h => Ex.noConfusion h) spec_l01Cut_loop0_hext spec_l01Cut_loop0_hpost)
/-- loop.example/g01284/spec.l01Cut -/
def spec_l01Cut_tree (a0 : (List UInt8)) (a1 : Int) : DT (List (List UInt8)) :=
  .need ((spec_l01Cut_loop0_ends (a0, a1) (0, 0, []))) (
  let x0 := spec_l01Cut_loop0 (a0, a1) (0, 0, []);
  .leaf x0)
def spec_l01Cut (a0 : (List UInt8)) (a1 : Int) : List (List UInt8) := (spec_l01Cut_tree a0 a1).val
def spec_l01Cut_need (a0 : (List UInt8)) (a1 : Int) : Bool := (spec_l01Cut_tree a0 a1).ok
def spec_l01Cut_mk (p : List (List UInt8)) : Ret := ⟨.own 0, [.typed 9 .str p]⟩
def spec_l01Cut_c : Con := fun args => match args with
  | [.str a0, .int .u8 a1] => some (.need (spec_l01Cut_need a0 a1) (.leaf (spec_l01Cut_mk (spec_l01Cut a0 a1))))
  | _ => none
set_option maxRecDepth 100000 in
theorem spec_l01Cut_ok : FunOK Tryd.prog 17 spec_l01Cut_c.fn := by
  refine con_ok (Γ := gam []) (gam_nil) tab_ok (by kernel_rfl) Tryd.func17 (by kernel_rfl) (by kernel_rfl) Tryd.ntmps17 Tryd.results17 (loops := spec_l01Cut_loops) (loopsOK_list (l := [lp Tryd.f17 0]) (by kernel_rfl) ⟨spec_l01Cut_l0, trivial⟩) 100000 fun args t h => ?_
  unfold spec_l01Cut_c at h
  split at h
  · rename_i a0 a1
    cases h
    exact ⟨rfl, agree_need (mk := spec_l01Cut_mk) (t := spec_l01Cut_tree a0 a1) (by unfold Agree; kernel_rfl)⟩
  · cases h

/-- loop.example/g01284/spec.l01From -/
def spec_l01From_tree (a0 : Int) : DT (Nat) :=
  let x0 := IntKind.wrap .u32 a0;
  let x1 := canon .f32 (Int.toNat x0);
  .leaf x1
def spec_l01From (a0 : Int) : Nat := (spec_l01From_tree a0).val
def spec_l01From_mk (p : Nat) : Ret := ⟨.flt .f32 p, []⟩
def spec_l01From_c : Con := fun args => match args with
  | [.int .i64 a0] => some (.leaf (spec_l01From_mk (spec_l01From a0)))
  | _ => none
set_option maxRecDepth 100000 in
theorem spec_l01From_ok : FunOK Tryd.prog 25 spec_l01From_c.fn := by
  refine con_ok (Γ := gam [(22, math_Float32frombits_c)]) (gam_cons math_Float32frombits_ok (gam_nil)) tab_ok (by kernel_rfl) Tryd.func25 (by kernel_rfl) (by kernel_rfl) Tryd.ntmps25 Tryd.results25 (loopsOK_none rfl _) 100000 fun args t h => ?_
  unfold spec_l01From_c at h
  split at h
  · rename_i a0
    cases h
    exact ⟨rfl, agree_tot (mk := spec_l01From_mk) (t := spec_l01From_tree a0) (by unfold Agree; kernel_rfl) (by kernel_rfl)⟩
  · cases h

/-- loop.example/g01284/spec.l01Bits -/
def spec_l01Bits_tree (a0 : Nat) : DT (Int) :=
  let x0 := fne .f32 a0 a0;
  .ask x0
  (
   .leaf 2143289344)
  (
   .need ((!isNaN .f32 a0)) (
   let x1 := IntKind.wrap .i64 ((a0 : Nat) : Int);
   .leaf x1))
def spec_l01Bits (a0 : Nat) : Int := (spec_l01Bits_tree a0).val
def spec_l01Bits_need (a0 : Nat) : Bool := (spec_l01Bits_tree a0).ok
def spec_l01Bits_mk (p : Int) : Ret := ⟨.int .i64 p, []⟩
def spec_l01Bits_c : Con := fun args => match args with
  | [.flt .f32 a0] => some (.need (spec_l01Bits_need a0) (.leaf (spec_l01Bits_mk (spec_l01Bits a0))))
  | _ => none
set_option maxRecDepth 100000 in
theorem spec_l01Bits_ok : FunOK Tryd.prog 26 spec_l01Bits_c.fn := by
  refine con_ok (Γ := gam [(35, math_Float32bits_c)]) (gam_cons math_Float32bits_ok (gam_nil)) tab_ok (by kernel_rfl) Tryd.func26 (by kernel_rfl) (by kernel_rfl) Tryd.ntmps26 Tryd.results26 (loopsOK_none rfl _) 100000 fun args t h => ?_
  unfold spec_l01Bits_c at h
  split at h
  · rename_i a0
    cases h
    exact ⟨rfl, agree_need (mk := spec_l01Bits_mk) (t := spec_l01Bits_tree a0) (by unfold Agree; kernel_rfl)⟩
  · cases h

/-- a loop of spec_l01Digits -/
def spec_l01Digits_loop0_step (p : (List UInt8)) (s : Int × Int) : Round (Int × Int) ((Nat) ⊕ (Int)) :=
  let x0 := ((List.length p : Nat) : Int);
  let x1 := decide (s.2 < x0);
  .ask x1
  (
   .need ((decide (0 ≤ s.2) && decide (s.2 < ((List.length p : Nat) : Int)))) (
   let x2 := ((List.getD (p : List UInt8) (Int.toNat s.2) 0).toNat : Int);
   let x3 := decide (x2 ≥ 48);
   .ask x3
   (
    .need ((decide (0 ≤ s.2) && decide (s.2 < ((List.length p : Nat) : Int)))) (
    let x4 := ((List.getD (p : List UInt8) (Int.toNat s.2) 0).toNat : Int);
    let x5 := decide (x4 ≤ 57);
    .ask x5
    (
     .need ((decide (0 ≤ s.2) && decide (s.2 < ((List.length p : Nat) : Int)))) (
     let x6 := ((List.getD (p : List UInt8) (Int.toNat s.2) 0).toNat : Int);
     let x7 := IntKind.wrap .u8 (x6 - 48);
     let x8 := IntKind.wrap .i64 x7;
     .need ((decide (0 ≤ s.2) && decide (s.2 < ((List.length p : Nat) : Int)))) (
     let x9 := ((List.getD (p : List UInt8) (Int.toNat s.2) 0).toNat : Int);
     let x10 := decide (x9 ≥ 97);
     .ask x10
     (
      .need ((decide (0 ≤ s.2) && decide (s.2 < ((List.length p : Nat) : Int)))) (
      let x11 := ((List.getD (p : List UInt8) (Int.toNat s.2) 0).toNat : Int);
      let x12 := decide (x11 ≤ 102);
      .ask x12
      (
       .need ((decide (0 ≤ s.2) && decide (s.2 < ((List.length p : Nat) : Int)))) (
       let x13 := ((List.getD (p : List UInt8) (Int.toNat s.2) 0).toNat : Int);
       let x14 := IntKind.wrap .u8 (x13 - 97);
       let x15 := IntKind.wrap .i64 x14;
       let x16 := IntKind.wrap .i64 (x15 + 10);
       let x17 := decide (x16 < 0);
       .ask x17
       (
        .leaf (.inr (.inl 0), []))
       (
        let x18 := IntKind.wrap .i64 (16 * s.1);
        let x19 := IntKind.wrap .i64 (x18 + x16);
        let x20 := IntKind.wrap .i64 (s.2 + 1);
        .leaf (.inl (x19, x20), []))))
      (
       let x13 := decide (x8 < 0);
       .ask x13
       (
        .leaf (.inr (.inl 0), []))
       (
        let x14 := IntKind.wrap .i64 (16 * s.1);
        let x15 := IntKind.wrap .i64 (x14 + x8);
        let x16 := IntKind.wrap .i64 (s.2 + 1);
        .leaf (.inl (x15, x16), [])))))
     (
      let x11 := decide (x8 < 0);
      .ask x11
      (
       .leaf (.inr (.inl 0), []))
      (
       let x12 := IntKind.wrap .i64 (16 * s.1);
       let x13 := IntKind.wrap .i64 (x12 + x8);
       let x14 := IntKind.wrap .i64 (s.2 + 1);
       .leaf (.inl (x13, x14), []))))))
    (
     .need ((decide (0 ≤ s.2) && decide (s.2 < ((List.length p : Nat) : Int)))) (
     let x6 := ((List.getD (p : List UInt8) (Int.toNat s.2) 0).toNat : Int);
     let x7 := decide (x6 ≥ 97);
     .ask x7
     (
      .need ((decide (0 ≤ s.2) && decide (s.2 < ((List.length p : Nat) : Int)))) (
      let x8 := ((List.getD (p : List UInt8) (Int.toNat s.2) 0).toNat : Int);
      let x9 := decide (x8 ≤ 102);
      .ask x9
      (
       .need ((decide (0 ≤ s.2) && decide (s.2 < ((List.length p : Nat) : Int)))) (
       let x10 := ((List.getD (p : List UInt8) (Int.toNat s.2) 0).toNat : Int);
       let x11 := IntKind.wrap .u8 (x10 - 97);
       let x12 := IntKind.wrap .i64 x11;
       let x13 := IntKind.wrap .i64 (x12 + 10);
       let x14 := decide (x13 < 0);
       .ask x14
       (
        .leaf (.inr (.inl 0), []))
       (
        let x15 := IntKind.wrap .i64 (16 * s.1);
        let x16 := IntKind.wrap .i64 (x15 + x13);
        let x17 := IntKind.wrap .i64 (s.2 + 1);
        .leaf (.inl (x16, x17), []))))
      (
       .skip (
       .leaf (.inr (.inl 0), [])))))
     (
      .skip (
      .leaf (.inr (.inl 0), [])))))))
   (
    .need ((decide (0 ≤ s.2) && decide (s.2 < ((List.length p : Nat) : Int)))) (
    let x4 := ((List.getD (p : List UInt8) (Int.toNat s.2) 0).toNat : Int);
    let x5 := decide (x4 ≥ 97);
    .ask x5
    (
     .need ((decide (0 ≤ s.2) && decide (s.2 < ((List.length p : Nat) : Int)))) (
     let x6 := ((List.getD (p : List UInt8) (Int.toNat s.2) 0).toNat : Int);
     let x7 := decide (x6 ≤ 102);
     .ask x7
     (
      .need ((decide (0 ≤ s.2) && decide (s.2 < ((List.length p : Nat) : Int)))) (
      let x8 := ((List.getD (p : List UInt8) (Int.toNat s.2) 0).toNat : Int);
      let x9 := IntKind.wrap .u8 (x8 - 97);
      let x10 := IntKind.wrap .i64 x9;
      let x11 := IntKind.wrap .i64 (x10 + 10);
      let x12 := decide (x11 < 0);
      .ask x12
      (
       .leaf (.inr (.inl 0), []))
      (
       let x13 := IntKind.wrap .i64 (16 * s.1);
       let x14 := IntKind.wrap .i64 (x13 + x11);
       let x15 := IntKind.wrap .i64 (s.2 + 1);
       .leaf (.inl (x14, x15), []))))
     (
      .skip (
      .leaf (.inr (.inl 0), [])))))
    (
     .skip (
     .leaf (.inr (.inl 0), [])))))))
  (
   .leaf (.inr (.inr s.1), []))
def spec_l01Digits_loop0_L (p : (List UInt8)) : LoopS (Int × Int) ((Nat) ⊕ (Int)) := { tl := fun s => [.str p, .junk, .junk, .junk, .int .i64 s.1, .int .i64 s.2], hl := fun s => [], ex := fun r => match r with | .inl r => .ret | .inr r => .exit 0, otl := fun r => match r with | .inl r => [.junk, .junk, .flt .f32 r, .bool false] | .inr r => [.junk, .junk, .junk, .junk, .int .i64 r], ohl := fun r => match r with | .inl r => [] | .inr r => [] }
def spec_l01Digits_loop0_ext : St → Option (((List UInt8)) × (Int × Int) × List Nat) := fun S => match (S.tm 0).unK, (S.tm 4).unK, (S.tm 5).unK with
  | .str q0, .int .i64 q1, .int .i64 q2 => some (q0, (q1, q2), [])
  | _, _, _ => none
def spec_l01Digits_loop0_post (p : (List UInt8)) (r : (Nat) ⊕ (Int)) : DT (Ex × St) := .ask (isL r) (.leaf (.ret, LSt [.junk, .junk, .flt .f32 ((leftD r)), .bool false] [])) (.leaf (.exit 0, LSt [.junk, .junk, .junk, .junk, .int .i64 ((rightD r))] []))
def spec_l01Digits_loop0 (p : (List UInt8)) (s : Int × Int) : (Nat) ⊕ (Int) := loopVal (spec_l01Digits_loop0_step p) s
def spec_l01Digits_loop0_ends (p : (List UInt8)) (s : Int × Int) : Bool := loopEnds (spec_l01Digits_loop0_step p) s
def spec_l01Digits_loop0_F : LoopF := loopF spec_l01Digits_loop0_step spec_l01Digits_loop0_ext spec_l01Digits_loop0_post
theorem spec_l01Digits_loop0_hext : ∀ S p s fl, spec_l01Digits_loop0_ext S = some (p, s, fl) → Norm S fl ((spec_l01Digits_loop0_L p).tl s) ((spec_l01Digits_loop0_L p).hl s) (spec_l01Digits_loop0_L p).gl := by
  intro S p s fl h
  unfold spec_l01Digits_loop0_ext at h
  (repeat' split at h) <;> first
    | (cases h; constructor <;> simp_all [spec_l01Digits_loop0_L, keepT, keepH, rens, renH, PV.ren, Blk.ren, fOf, lget, nodup, natIn, lenEq, gtm, PV.unK])
    | cases h
theorem spec_l01Digits_loop0_hpost : ∀ p r e S', (spec_l01Digits_loop0_post p r).get = some (e, S') → e = (spec_l01Digits_loop0_L p).ex r ∧ S' = LSt ((spec_l01Digits_loop0_L p).otl r) ((spec_l01Digits_loop0_L p).ohl r) ((spec_l01Digits_loop0_L p).ogl r) := by
  intro p r e S' h
  unfold spec_l01Digits_loop0_post at h
  cases r <;> (simp only [isL, DT.get, Option.some.injEq, Prod.mk.injEq] at h; exact ⟨h.1.symm, h.2.symm⟩)

def spec_l01Digits_loops : Nat → Option LoopF := loopTab [(3, spec_l01Digits_loop0_F)]
set_option maxRecDepth 100000 in
theorem spec_l01Digits_l0 : LoopOK Tryd.prog ⟨gam [(25, spec_l01From_c), (26, spec_l01Bits_c)], tab, 58, spec_l01Digits_loops⟩ (lp Tryd.f18 0) :=
  loopOK_some (F := spec_l01Digits_loop0_F) (by kernel_rfl) (loopF_ok (E := ⟨gam [(25, spec_l01From_c), (26, spec_l01Bits_c)], tab, 58, spec_l01Digits_loops⟩) ⟨gam_cons spec_l01From_ok (gam_cons spec_l01Bits_ok (gam_nil)), tab_ok, by kernel_rfl⟩ (fuel := 100000) (loopsOK_list (l := []) (by kernel_rfl) trivial) (L := spec_l01Digits_loop0_L) (fun p s => by unfold AgreeL; exact ⟨by kernel_rfl, by kernel_rfl⟩) (fun _ r h => by cases r <;> exact Ex.noConfusion h) spec_l01Digits_loop0_hext spec_l01Digits_loop0_hpost)
/-- loop.example/g01284/spec.l01Digits -/
def spec_l01Digits_tree (a0 : (List UInt8)) : DT (Nat × Bool) :=
  .need ((spec_l01Digits_loop0_ends a0 (0, 0))) (
  let x0 := spec_l01Digits_loop0 a0 (0, 0);
  .ask ((isL x0))
  (
   .leaf ((leftD x0), false))
  (
   let x1 := spec_l01From ((rightD x0));
   .need ((spec_l01Bits_need x1)) (
   let x2 := spec_l01Bits x1;
   let x3 := (x2 != (rightD x0));
   .ask x3
   (
    .leaf (0, false))
   (
    .leaf (x1, true)))))
def spec_l01Digits (a0 : (List UInt8)) : Nat × Bool := (spec_l01Digits_tree a0).val
def spec_l01Digits_need (a0 : (List UInt8)) : Bool := (spec_l01Digits_tree a0).ok
def spec_l01Digits_mk (p : Nat × Bool) : Ret := ⟨.tup [.flt .f32 p.1, .bool p.2], []⟩
def spec_l01Digits_c : Con := fun args => match args with
  | [.str a0] => some (.need (spec_l01Digits_need a0) (.leaf (spec_l01Digits_mk (spec_l01Digits a0))))
  | _ => none
set_option maxRecDepth 100000 in
theorem spec_l01Digits_ok : FunOK Tryd.prog 18 spec_l01Digits_c.fn := by
  refine con_ok (Γ := gam [(25, spec_l01From_c), (26, spec_l01Bits_c)]) (gam_cons spec_l01From_ok (gam_cons spec_l01Bits_ok (gam_nil))) tab_ok (by kernel_rfl) Tryd.func18 (by kernel_rfl) (by kernel_rfl) Tryd.ntmps18 Tryd.results18 (loops := spec_l01Digits_loops) (loopsOK_list (l := [lp Tryd.f18 0]) (by kernel_rfl) ⟨spec_l01Digits_l0, trivial⟩) 100000 fun args t h => ?_
  unfold spec_l01Digits_c at h
  split at h
  · rename_i a0
    cases h
    exact ⟨rfl, agree_need (mk := spec_l01Digits_mk) (t := spec_l01Digits_tree a0) (by unfold Agree; kernel_rfl)⟩
  · cases h

/-- a loop of spec_l01CRead -/
def spec_l01CRead_loop0_step (p : List (List UInt8)) (s : Int × List (Nat × Nat)) : Round (Int × List (Nat × Nat)) ((Unit) ⊕ (List (Nat × Nat))) :=
  let x0 := ((List.length p : Nat) : Int);
  let x1 := decide (s.1 < x0);
  .ask x1
  (
   .need ((decide (0 ≤ s.1) && decide (s.1 < ((List.length p : Nat) : Int)))) (
   .need ((decide ((Int.toNat s.1) < List.length p))) (
   let x2 := List.getD p (Int.toNat s.1) default;
   let x3 := ((List.length x2 : Nat) : Int);
   let x4 := (x3 != 16);
   .ask x4
   (
    .leaf (.inr (.inl ()), []))
   (
    .need ((decide (0 ≤ s.1) && decide (s.1 < ((List.length p : Nat) : Int)))) (
    .need ((decide ((Int.toNat s.1) < List.length p))) (
    let x5 := List.getD p (Int.toNat s.1) default;
    .need ((decide (0 ≤ 8) && decide (8 ≤ ((List.length x5 : Nat) : Int)))) (
    let x6 := List.drop 0 (List.take 8 x5);
    .need ((spec_l01Digits_need x6)) (
    let x7 := spec_l01Digits x6;
    .need ((decide (0 ≤ s.1) && decide (s.1 < ((List.length p : Nat) : Int)))) (
    .need ((decide ((Int.toNat s.1) < List.length p))) (
    let x8 := List.getD p (Int.toNat s.1) default;
    .need ((decide (0 ≤ 8) && decide (8 ≤ (((List.length x8) : Nat) : Int)))) (
    let x9 := List.drop 8 (List.take (List.length x8) x8);
    .need ((spec_l01Digits_need x9)) (
    let x10 := spec_l01Digits x9;
    .ask (!x7.2)
    (
     .leaf (.inr (.inl ()), []))
    (
     .ask (!x10.2)
     (
      .leaf (.inr (.inl ()), []))
     (
      .need ((decide ((List.length s.2 + List.length [(x7.1, x10.1)]) * 8 ≤ 140737488355328) && decide (List.length s.2 + List.length [(x7.1, x10.1)] ≤ 9223372036854775807))) (
      let x11 := s.2 ++ [(x7.1, x10.1)];
      let x12 := IntKind.wrap .i64 (s.1 + 1);
      .leaf (.inl (x12, x11), [346, 1]))))))))))))))))
  (
   .leaf (.inr (.inr s.2), [0]))
def spec_l01CRead_loop0_L (p : List (List UInt8)) : LoopS (Int × List (Nat × Nat)) ((Unit) ⊕ (List (Nat × Nat))) := { tl := fun s => [.junk, .junk, .junk, .junk, .own 0, .own 1, .int .i64 s.1], hl := fun s => [some (.typed 22 (.cplx .f32) s.2), some (.typed 9 .str p)], ex := fun r => match r with | .inl r => .ret | .inr r => .exit 0, otl := fun r => match r with | .inl r => [.junk, .junk, .nils, .bool false] | .inr r => [.junk, .junk, .junk, .junk, .own 0], ohl := fun r => match r with | .inl r => [] | .inr r => [some (.typed 22 (.cplx .f32) r)] }
def spec_l01CRead_loop0_ext : St → Option ((List (List UInt8)) × (Int × List (Nat × Nat)) × List Nat) := fun S => match (S.tm 4).unK, (S.tm 5).unK, (S.tm 6).unK with
  | .own i0, .own i1, .int .i64 q0 => (match S.hp i0 with
    | some (.typed 22 (.cplx .f32) q1) => (match S.hp i1 with
    | some (.typed 9 .str q2) => (if nodup [i0, i1] = true then some (q2, (q0, q1), [i0, i1]) else none)
    | _ => none)
    | _ => none)
  | _, _, _ => none
def spec_l01CRead_loop0_post (p : List (List UInt8)) (r : (Unit) ⊕ (List (Nat × Nat))) : DT (Ex × St) := .ask (isL r) (.leaf (.ret, LSt [.junk, .junk, .nils, .bool false] [])) (.leaf (.exit 0, LSt [.junk, .junk, .junk, .junk, .own 0] [some (.typed 22 (.cplx .f32) ((rightD r)))]))
def spec_l01CRead_loop0 (p : List (List UInt8)) (s : Int × List (Nat × Nat)) : (Unit) ⊕ (List (Nat × Nat)) := loopVal (spec_l01CRead_loop0_step p) s
def spec_l01CRead_loop0_ends (p : List (List UInt8)) (s : Int × List (Nat × Nat)) : Bool := loopEnds (spec_l01CRead_loop0_step p) s
def spec_l01CRead_loop0_F : LoopF := loopF spec_l01CRead_loop0_step spec_l01CRead_loop0_ext spec_l01CRead_loop0_post
theorem spec_l01CRead_loop0_hext : ∀ S p s fl, spec_l01CRead_loop0_ext S = some (p, s, fl) → Norm S fl ((spec_l01CRead_loop0_L p).tl s) ((spec_l01CRead_loop0_L p).hl s) (spec_l01CRead_loop0_L p).gl := by
  intro S p s fl h
  unfold spec_l01CRead_loop0_ext at h
  (repeat' split at h) <;> first
    | (cases h; constructor <;> simp_all [spec_l01CRead_loop0_L, keepT, keepH, rens, renH, PV.ren, Blk.ren, fOf, lget, nodup, natIn, lenEq, gtm, PV.unK])
    | cases h
theorem spec_l01CRead_loop0_hpost : ∀ p r e S', (spec_l01CRead_loop0_post p r).get = some (e, S') → e = (spec_l01CRead_loop0_L p).ex r ∧ S' = LSt ((spec_l01CRead_loop0_L p).otl r) ((spec_l01CRead_loop0_L p).ohl r) ((spec_l01CRead_loop0_L p).ogl r) := by
  intro p r e S' h
  unfold spec_l01CRead_loop0_post at h
  cases r <;> (simp only [isL, DT.get, Option.some.injEq, Prod.mk.injEq] at h; exact ⟨h.1.symm, h.2.symm⟩)

def spec_l01CRead_loops : Nat → Option LoopF := loopTab [(8, spec_l01CRead_loop0_F)]
set_option maxRecDepth 100000 in
theorem spec_l01CRead_l0 : LoopOK Tryd.prog ⟨gam [(17, spec_l01Cut_c), (18, spec_l01Digits_c)], tab, 63, spec_l01CRead_loops⟩ (lp Tryd.f11 0) :=
  loopOK_some (F := spec_l01CRead_loop0_F) (by kernel_rfl) (loopF_ok (E := ⟨gam [(17, spec_l01Cut_c), (18, spec_l01Digits_c)], tab, 63, spec_l01CRead_loops⟩) ⟨gam_cons spec_l01Cut_ok (gam_cons spec_l01Digits_ok (gam_nil)), tab_ok, by kernel_rfl⟩ (fuel := 100000) (loopsOK_list (l := []) (by kernel_rfl) trivial) (L := spec_l01CRead_loop0_L) (fun p s => by unfold AgreeL; exact ⟨by kernel_rfl, by kernel_rfl⟩) (fun _ r h => by cases r <;> exact Ex.noConfusion h) spec_l01CRead_loop0_hext spec_l01CRead_loop0_hpost)
/-- loop.example/g01284/spec.l01CRead -/
def spec_l01CRead_tree (a0 : (List UInt8)) : DT ((List (Nat × Nat)) ⊕ (Unit)) :=
  let x0 := (a0 == [110, 111, 110, 101]);
  .ask x0
  (
   .leaf (.inl []))
  (
   .need ((spec_l01Cut_need a0 44)) (
   let x1 := spec_l01Cut a0 44;
   let x2 := ((List.length x1 : Nat) : Int);
   let x3 := decide (x2 > 256);
   .ask x3
   (
    .leaf (.inr ()))
   (
    .need ((spec_l01CRead_loop0_ends x1 (0, []))) (
    let x4 := spec_l01CRead_loop0 x1 (0, []);
    .ask ((isL x4))
    (
     .leaf (.inr ()))
    (
     .leaf (.inl ((rightD x4))))))))
def spec_l01CRead (a0 : (List UInt8)) : (List (Nat × Nat)) ⊕ (Unit) := (spec_l01CRead_tree a0).val
def spec_l01CRead_need (a0 : (List UInt8)) : Bool := (spec_l01CRead_tree a0).ok
def spec_l01CRead_mk0 (p : List (Nat × Nat)) : Ret := ⟨.tup [.own 0, .bool true], [.typed 22 (.cplx .f32) p]⟩
def spec_l01CRead_mk1 (p : Unit) : Ret := ⟨.tup [.nils, .bool false], []⟩
def spec_l01CRead_mk : (List (Nat × Nat)) ⊕ (Unit) → Ret := fun v => match v with
  | (.inl p) => spec_l01CRead_mk0 p
  | (.inr p) => spec_l01CRead_mk1 p
def spec_l01CRead_forms (v : (List (Nat × Nat)) ⊕ (Unit)) : DT Ret := .ask (isL v) (.leaf (spec_l01CRead_mk0 (leftD v))) (.leaf (spec_l01CRead_mk1 (rightD v)))
theorem spec_l01CRead_forms_get : ∀ v, (spec_l01CRead_forms v).get = some (spec_l01CRead_mk v) := by
  intro v
  rcases v with v | v <;> rfl
def spec_l01CRead_c : Con := fun args => match args with
  | [.str a0] => some (.need (spec_l01CRead_need a0) (spec_l01CRead_forms (spec_l01CRead a0)))
  | _ => none
set_option maxRecDepth 100000 in
theorem spec_l01CRead_ok : FunOK Tryd.prog 11 spec_l01CRead_c.fn := by
  refine con_ok (Γ := gam [(17, spec_l01Cut_c), (18, spec_l01Digits_c)]) (gam_cons spec_l01Cut_ok (gam_cons spec_l01Digits_ok (gam_nil))) tab_ok (by kernel_rfl) Tryd.func11 (by kernel_rfl) (by kernel_rfl) Tryd.ntmps11 Tryd.results11 (loops := spec_l01CRead_loops) (loopsOK_list (l := [lp Tryd.f11 0]) (by kernel_rfl) ⟨spec_l01CRead_l0, trivial⟩) 100000 fun args t h => ?_
  unfold spec_l01CRead_c at h
  split at h
  · rename_i a0
    cases h
    exact ⟨rfl, agree_forms (mk := spec_l01CRead_mk) (t := spec_l01CRead_tree a0) (by unfold Agree; kernel_rfl) (fun h => h) (spec_l01CRead_forms_get _)⟩
  · cases h

/-- loop.example/g01284/spec.l01Finite -/
def spec_l01Finite_tree (a0 : Nat) : DT (Bool) :=
  let x0 := fsub .f32 a0 a0;
  let x1 := feq .f32 x0 0;
  .leaf x1
def spec_l01Finite (a0 : Nat) : Bool := (spec_l01Finite_tree a0).val
def spec_l01Finite_mk (p : Bool) : Ret := ⟨.bool p, []⟩
def spec_l01Finite_c : Con := fun args => match args with
  | [.flt .f32 a0] => some (.leaf (spec_l01Finite_mk (spec_l01Finite a0)))
  | _ => none
set_option maxRecDepth 100000 in
theorem spec_l01Finite_ok : FunOK Tryd.prog 36 spec_l01Finite_c.fn := by
  refine con_ok (Γ := gam []) (gam_nil) tab_ok (by kernel_rfl) Tryd.func36 (by kernel_rfl) (by kernel_rfl) Tryd.ntmps36 Tryd.results36 (loopsOK_none rfl _) 100000 fun args t h => ?_
  unfold spec_l01Finite_c at h
  split at h
  · rename_i a0
    cases h
    exact ⟨rfl, agree_tot (mk := spec_l01Finite_mk) (t := spec_l01Finite_tree a0) (by unfold Agree; kernel_rfl) (by kernel_rfl)⟩
  · cases h

/-- loop.example/g01284/spec.l01CFinite -/
def spec_l01CFinite_tree (a0 : (Nat × Nat)) : DT (Bool) :=
  let x0 := spec_l01Finite a0.1;
  .ask x0
  (
   let x1 := spec_l01Finite a0.2;
   .leaf x1)
  (
   .leaf false)
def spec_l01CFinite (a0 : (Nat × Nat)) : Bool := (spec_l01CFinite_tree a0).val
def spec_l01CFinite_mk (p : Bool) : Ret := ⟨.bool p, []⟩
def spec_l01CFinite_c : Con := fun args => match args with
  | [.cplx .f32 a0r a0i] => some (.leaf (spec_l01CFinite_mk (spec_l01CFinite (a0r, a0i))))
  | _ => none
set_option maxRecDepth 100000 in
theorem spec_l01CFinite_ok : FunOK Tryd.prog 27 spec_l01CFinite_c.fn := by
  refine con_ok (Γ := gam [(36, spec_l01Finite_c)]) (gam_cons spec_l01Finite_ok (gam_nil)) tab_ok (by kernel_rfl) Tryd.func27 (by kernel_rfl) (by kernel_rfl) Tryd.ntmps27 Tryd.results27 (loopsOK_none rfl _) 100000 fun args t h => ?_
  unfold spec_l01CFinite_c at h
  split at h
  · rename_i a0r a0i
    cases h
    exact ⟨rfl, agree_tot (mk := spec_l01CFinite_mk) (t := spec_l01CFinite_tree (a0r, a0i)) (by unfold Agree; kernel_rfl) (by kernel_rfl)⟩
  · cases h

/-- loop.example/g01284/spec.l04Is -/
def spec_l04Is_tree (a0 : ((Nat × Nat) × (Nat × Nat))) : DT (Bool) :=
  let x0 := spec_l01CFinite ((a0.1.1, a0.1.2));
  .ask x0
  (
   let x1 := spec_l01CFinite ((a0.2.1, a0.2.2));
   .leaf x1)
  (
   .leaf false)
def spec_l04Is (a0 : ((Nat × Nat) × (Nat × Nat))) : Bool := (spec_l04Is_tree a0).val
def spec_l04Is_mk (p : Bool) : Ret := ⟨.bool p, []⟩
def spec_l04Is_c0 : Con := fun args => match args with
  | [.vcell [.cplx .f32 a0_0r a0_0i, .cplx .f32 a0_1r a0_1i] 0] => some (.leaf (spec_l04Is_mk (spec_l04Is ((a0_0r, a0_0i), (a0_1r, a0_1i)))))
  | _ => none
set_option maxRecDepth 100000 in
theorem spec_l04Is_ok0 : FunOK Tryd.prog 19 spec_l04Is_c0.fn := by
  refine con_ok (Γ := gam [(27, spec_l01CFinite_c)]) (gam_cons spec_l01CFinite_ok (gam_nil)) tab_ok (by kernel_rfl) Tryd.func19 (by kernel_rfl) (by kernel_rfl) Tryd.ntmps19 Tryd.results19 (loopsOK_none rfl _) 100000 fun args t h => ?_
  unfold spec_l04Is_c0 at h
  split at h
  · rename_i a0_0r a0_0i a0_1r a0_1i
    cases h
    exact ⟨rfl, agree_tot (mk := spec_l04Is_mk) (t := spec_l04Is_tree ((a0_0r, a0_0i), (a0_1r, a0_1i))) (by unfold Agree; kernel_rfl) (by kernel_rfl)⟩
  · cases h
def spec_l04Is_c : Con := fun args => spec_l04Is_c0 (norms 0 [.ptr 2] args)
set_option maxRecDepth 100000 in
theorem spec_l04Is_ok : FunOK Tryd.prog 19 spec_l04Is_c.fn := con_norm [.ptr 2] spec_l04Is_ok0

/-- loop.example/g01284/spec.l04Give -/
def spec_l04Give_tree (a0 : ((Nat × Nat) × (Nat × Nat))) : DT (((Nat × Nat) × (Nat × Nat)) × Bool) :=
  let x0 := spec_l04Is ((a0.1.1, a0.1.2), (a0.2.1, a0.2.2));
  .ask (!x0)
  (
   .leaf (((0, 0), (0, 0)), false))
  (
   .leaf (((a0.1.1, a0.1.2), (a0.2.1, a0.2.2)), true))
def spec_l04Give (a0 : ((Nat × Nat) × (Nat × Nat))) : ((Nat × Nat) × (Nat × Nat)) × Bool := (spec_l04Give_tree a0).val
def spec_l04Give_mk (p : ((Nat × Nat) × (Nat × Nat)) × Bool) : Ret := ⟨.tup [.agg [.cplx .f32 p.1.1.1 p.1.1.2, .cplx .f32 p.1.2.1 p.1.2.2], .bool p.2], []⟩
def spec_l04Give_c : Con := fun args => match args with
  | [.agg [.cplx .f32 a0_0r a0_0i, .cplx .f32 a0_1r a0_1i]] => some (.leaf (spec_l04Give_mk (spec_l04Give ((a0_0r, a0_0i), (a0_1r, a0_1i)))))
  | _ => none
set_option maxRecDepth 100000 in
theorem spec_l04Give_ok : FunOK Tryd.prog 12 spec_l04Give_c.fn := by
  refine con_ok (Γ := gam [(19, spec_l04Is_c)]) (gam_cons spec_l04Is_ok (gam_nil)) tab_ok (by kernel_rfl) Tryd.func12 (by kernel_rfl) (by kernel_rfl) Tryd.ntmps12 Tryd.results12 (loopsOK_none rfl _) 100000 fun args t h => ?_
  unfold spec_l04Give_c at h
  split at h
  · rename_i a0_0r a0_0i a0_1r a0_1i
    cases h
    exact ⟨rfl, agree_tot (mk := spec_l04Give_mk) (t := spec_l04Give_tree ((a0_0r, a0_0i), (a0_1r, a0_1i))) (by unfold Agree; kernel_rfl) (by kernel_rfl)⟩
  · cases h

/-- loop.example/g01284/spec.l08ReadShip -/
def spec_l08ReadShip_tree (a0 : (List UInt8)) : DT (((Nat × Nat) × (Nat × Nat)) × Bool) :=
  .need ((spec_l01CRead_need a0)) (
  let x0 := spec_l01CRead a0;
  .ask ((isL x0))
  (
   .skip (
   .skip (
   let x1 := ((List.length (leftD x0) : Nat) : Int);
   .skip (
   let x2 := (x1 != 2);
   .skip (
   .ask x2
   (
    .leaf (((0, 0), (0, 0)), false))
   (
    .need ((decide (0 ≤ 0) && decide (0 < ((List.length (leftD x0) : Nat) : Int)))) (
    .need ((decide (0 < List.length (leftD x0)))) (
    let x3 := List.getD (leftD x0) 0 default;
    .need ((decide (0 ≤ 1) && decide (1 < ((List.length (leftD x0) : Nat) : Int)))) (
    .need ((decide (1 < List.length (leftD x0)))) (
    let x4 := List.getD (leftD x0) 1 default;
    let x5 := spec_l04Give ((x3.1, x3.2), (x4.1, x4.2));
    .leaf (((x5.1.1.1, x5.1.1.2), (x5.1.2.1, x5.1.2.2)), x5.2)))))))))))
  (
   .skip (
   .skip (
   .skip (
   .skip (
   .leaf (((0, 0), (0, 0)), false)))))))
def spec_l08ReadShip (a0 : (List UInt8)) : ((Nat × Nat) × (Nat × Nat)) × Bool := (spec_l08ReadShip_tree a0).val
def spec_l08ReadShip_need (a0 : (List UInt8)) : Bool := (spec_l08ReadShip_tree a0).ok
def spec_l08ReadShip_mk (p : ((Nat × Nat) × (Nat × Nat)) × Bool) : Ret := ⟨.tup [.agg [.cplx .f32 p.1.1.1 p.1.1.2, .cplx .f32 p.1.2.1 p.1.2.2], .bool p.2], []⟩
def spec_l08ReadShip_c : Con := fun args => match args with
  | [.str a0] => some (.need (spec_l08ReadShip_need a0) (.leaf (spec_l08ReadShip_mk (spec_l08ReadShip a0))))
  | _ => none
set_option maxRecDepth 100000 in
theorem spec_l08ReadShip_ok : FunOK Tryd.prog 7 spec_l08ReadShip_c.fn := by
  refine con_ok (Γ := gam [(11, spec_l01CRead_c), (12, spec_l04Give_c)]) (gam_cons spec_l01CRead_ok (gam_cons spec_l04Give_ok (gam_nil))) tab_ok (by kernel_rfl) Tryd.func7 (by kernel_rfl) (by kernel_rfl) Tryd.ntmps7 Tryd.results7 (loopsOK_none rfl _) 100000 fun args t h => ?_
  unfold spec_l08ReadShip_c at h
  split at h
  · rename_i a0
    cases h
    exact ⟨rfl, agree_need (mk := spec_l08ReadShip_mk) (t := spec_l08ReadShip_tree a0) (by unfold Agree; kernel_rfl)⟩
  · cases h

/-- loop.example/g01284/spec.ReadShip -/
def spec_ReadShip_tree (a0 : (List UInt8)) : DT (((Nat × Nat) × (Nat × Nat)) × Bool) :=
  .need ((spec_l08ReadShip_need a0)) (
  let x0 := spec_l08ReadShip a0;
  .leaf (((x0.1.1.1, x0.1.1.2), (x0.1.2.1, x0.1.2.2)), x0.2))
def spec_ReadShip (a0 : (List UInt8)) : ((Nat × Nat) × (Nat × Nat)) × Bool := (spec_ReadShip_tree a0).val
def spec_ReadShip_need (a0 : (List UInt8)) : Bool := (spec_ReadShip_tree a0).ok
def spec_ReadShip_mk (p : ((Nat × Nat) × (Nat × Nat)) × Bool) : Ret := ⟨.tup [.agg [.cplx .f32 p.1.1.1 p.1.1.2, .cplx .f32 p.1.2.1 p.1.2.2], .bool p.2], []⟩
def spec_ReadShip_c : Con := fun args => match args with
  | [.str a0] => some (.need (spec_ReadShip_need a0) (.leaf (spec_ReadShip_mk (spec_ReadShip a0))))
  | _ => none
set_option maxRecDepth 100000 in
theorem spec_ReadShip_ok : FunOK Tryd.prog 4 spec_ReadShip_c.fn := by
  refine con_ok (Γ := gam [(7, spec_l08ReadShip_c)]) (gam_cons spec_l08ReadShip_ok (gam_nil)) tab_ok (by kernel_rfl) Tryd.func4 (by kernel_rfl) (by kernel_rfl) Tryd.ntmps4 Tryd.results4 (loopsOK_none rfl _) 100000 fun args t h => ?_
  unfold spec_ReadShip_c at h
  split at h
  · rename_i a0
    cases h
    exact ⟨rfl, agree_need (mk := spec_ReadShip_mk) (t := spec_ReadShip_tree a0) (by unfold Agree; kernel_rfl)⟩
  · cases h

-- FAILED 54 unicode/utf8.RuneCountInString: operation

-- FAILED 72 unicode/utf8.decodeRuneInStringSlow: global

-- FAILED 55 unicode/utf8.DecodeRuneInString: no contract: unicode/utf8.decodeRuneInStringSlow 

-- FAILED 37 strings.explode: no contract: unicode/utf8.RuneCountInString 

/-- internal/stringslite.IndexByte -/
def internal_stringslite_IndexByte_tree (a0 : (List UInt8)) (a1 : Int) : DT (Int) :=
  let x0 := Go.Lib.indexByte a0 (Nat.toUInt8 (Int.toNat a1));
  .leaf x0
def internal_stringslite_IndexByte (a0 : (List UInt8)) (a1 : Int) : Int := (internal_stringslite_IndexByte_tree a0 a1).val
def internal_stringslite_IndexByte_mk (p : Int) : Ret := ⟨.int .i64 p, []⟩
def internal_stringslite_IndexByte_c : Con := fun args => match args with
  | [.str a0, .int .u8 a1] => some (.leaf (internal_stringslite_IndexByte_mk (internal_stringslite_IndexByte a0 a1)))
  | _ => none
set_option maxRecDepth 100000 in
theorem internal_stringslite_IndexByte_ok : FunOK Tryd.prog 73 internal_stringslite_IndexByte_c.fn := by
  refine con_ok (Γ := gam [(86, internal_bytealg_IndexByteString_c)]) (gam_cons internal_bytealg_IndexByteString_ok (gam_nil)) tab_ok (by kernel_rfl) Tryd.func73 (by kernel_rfl) (by kernel_rfl) Tryd.ntmps73 Tryd.results73 (loopsOK_none rfl _) 100000 fun args t h => ?_
  unfold internal_stringslite_IndexByte_c at h
  split at h
  · rename_i a0 a1
    cases h
    exact ⟨rfl, agree_tot (mk := internal_stringslite_IndexByte_mk) (t := internal_stringslite_IndexByte_tree a0 a1) (by unfold Agree; kernel_rfl) (by kernel_rfl)⟩
  · cases h

-- FAILED 74 internal/bytealg.IndexString: no body

/-- internal/bytealg.Cutover -/
def internal_bytealg_Cutover_tree (a0 : Int) : DT (Int) :=
  let x0 := IntKind.wrap .i64 (a0 + 16);
  .skip (
  let x1 := IntKind.wrap .i64 (Int.tdiv x0 8);
  .leaf x1)
def internal_bytealg_Cutover (a0 : Int) : Int := (internal_bytealg_Cutover_tree a0).val
def internal_bytealg_Cutover_mk (p : Int) : Ret := ⟨.int .i64 p, []⟩
def internal_bytealg_Cutover_c : Con := fun args => match args with
  | [.int .i64 a0] => some (.leaf (internal_bytealg_Cutover_mk (internal_bytealg_Cutover a0)))
  | _ => none
set_option maxRecDepth 100000 in
theorem internal_bytealg_Cutover_ok : FunOK Tryd.prog 75 internal_bytealg_Cutover_c.fn := by
  refine con_ok (Γ := gam []) (gam_nil) tab_ok (by kernel_rfl) Tryd.func75 (by kernel_rfl) (by kernel_rfl) Tryd.ntmps75 Tryd.results75 (loopsOK_none rfl _) 100000 fun args t h => ?_
  unfold internal_bytealg_Cutover_c at h
  split at h
  · rename_i a0
    cases h
    exact ⟨rfl, agree_tot (mk := internal_bytealg_Cutover_mk) (t := internal_bytealg_Cutover_tree a0) (by unfold Agree; kernel_rfl) (by kernel_rfl)⟩
  · cases h

/-- a loop of internal_bytealg_hashStr_string_ -/
def internal_bytealg_hashStr_string__loop0_step (p : (List UInt8)) (s : Int × Int) : Round (Int × Int) (Int) :=
  let x0 := ((List.length p : Nat) : Int);
  let x1 := decide (s.2 < x0);
  .ask x1
  (
   let x2 := IntKind.wrap .u32 (s.1 * 16777619);
   .need ((decide (0 ≤ s.2) && decide (s.2 < ((List.length p : Nat) : Int)))) (
   let x3 := ((List.getD (p : List UInt8) (Int.toNat s.2) 0).toNat : Int);
   let x4 := IntKind.wrap .u32 x3;
   let x5 := IntKind.wrap .u32 (x2 + x4);
   let x6 := IntKind.wrap .i64 (s.2 + 1);
   .leaf (.inl (x5, x6), [])))
  (
   .leaf (.inr s.1, []))
def internal_bytealg_hashStr_string__loop0_L (p : (List UInt8)) : LoopS (Int × Int) (Int) := { tl := fun s => [.str p, .junk, .junk, .junk, .int .u32 s.1, .int .i64 s.2], hl := fun s => [], ex := fun r => .exit 0, otl := fun r => [.str p, .junk, .junk, .junk, .int .u32 r], ohl := fun r => [] }
def internal_bytealg_hashStr_string__loop0_ext : St → Option (((List UInt8)) × (Int × Int) × List Nat) := fun S => match (S.tm 0).unK, (S.tm 4).unK, (S.tm 5).unK with
  | .str q0, .int .u32 q1, .int .i64 q2 => some (q0, (q1, q2), [])
  | _, _, _ => none
def internal_bytealg_hashStr_string__loop0_post (p : (List UInt8)) (r : Int) : DT (Ex × St) := .leaf (.exit 0, LSt [.str p, .junk, .junk, .junk, .int .u32 r] [])
def internal_bytealg_hashStr_string__loop0 (p : (List UInt8)) (s : Int × Int) : Int := loopVal (internal_bytealg_hashStr_string__loop0_step p) s
def internal_bytealg_hashStr_string__loop0_ends (p : (List UInt8)) (s : Int × Int) : Bool := loopEnds (internal_bytealg_hashStr_string__loop0_step p) s
def internal_bytealg_hashStr_string__loop0_F : LoopF := loopF internal_bytealg_hashStr_string__loop0_step internal_bytealg_hashStr_string__loop0_ext internal_bytealg_hashStr_string__loop0_post
theorem internal_bytealg_hashStr_string__loop0_hext : ∀ S p s fl, internal_bytealg_hashStr_string__loop0_ext S = some (p, s, fl) → Norm S fl ((internal_bytealg_hashStr_string__loop0_L p).tl s) ((internal_bytealg_hashStr_string__loop0_L p).hl s) (internal_bytealg_hashStr_string__loop0_L p).gl := by
  intro S p s fl h
  unfold internal_bytealg_hashStr_string__loop0_ext at h
  (repeat' split at h) <;> first
    | (cases h; constructor <;> simp_all [internal_bytealg_hashStr_string__loop0_L, keepT, keepH, rens, renH, PV.ren, Blk.ren, fOf, lget, nodup, natIn, lenEq, gtm, PV.unK])
    | cases h
theorem internal_bytealg_hashStr_string__loop0_hpost : ∀ p r e S', (internal_bytealg_hashStr_string__loop0_post p r).get = some (e, S') → e = (internal_bytealg_hashStr_string__loop0_L p).ex r ∧ S' = LSt ((internal_bytealg_hashStr_string__loop0_L p).otl r) ((internal_bytealg_hashStr_string__loop0_L p).ohl r) ((internal_bytealg_hashStr_string__loop0_L p).ogl r) := by
  intro p r e S' h
  unfold internal_bytealg_hashStr_string__loop0_post at h
  simp only [DT.get, Option.some.injEq, Prod.mk.injEq] at h; exact ⟨h.1.symm, h.2.symm⟩

/-- a loop of internal_bytealg_hashStr_string_ -/
def internal_bytealg_hashStr_string__loop1_step (p : Int) (s : Int × Int × Int) : Round (Int × Int × Int) (Int) :=
  let x0 := decide (s.2.2 > 0);
  .ask x0
  (
   let x1 := IntKind.wrap .i64 (BitVec.ofInt (IntKind.bits .i64) s.2.2 &&& BitVec.ofInt (IntKind.bits .i64) 1).toNat;
   let x2 := (x1 != 0);
   .ask x2
   (
    let x3 := IntKind.wrap .u32 (s.1 * s.2.1);
    let x4 := IntKind.wrap .u32 (s.2.1 * s.2.1);
    .skip (
    let x5 := Int.fdiv s.2.2 (2 ^ (min (Int.toNat 1) (IntKind.bits .i64)));
    .leaf (.inl (x3, x4, x5), [])))
   (
    let x3 := IntKind.wrap .u32 (s.2.1 * s.2.1);
    .skip (
    let x4 := Int.fdiv s.2.2 (2 ^ (min (Int.toNat 1) (IntKind.bits .i64)));
    .leaf (.inl (s.1, x3, x4), []))))
  (
   .leaf (.inr s.1, []))
def internal_bytealg_hashStr_string__loop1_L (p : Int) : LoopS (Int × Int × Int) (Int) := { tl := fun s => [.junk, .junk, .junk, .junk, .int .u32 p, .junk, .int .u32 s.1, .int .u32 s.2.1, .int .i64 s.2.2], hl := fun s => [], ex := fun r => .exit 2, otl := fun r => [.junk, .junk, .junk, .junk, .int .u32 p, .junk, .int .u32 r], ohl := fun r => [] }
def internal_bytealg_hashStr_string__loop1_ext : St → Option ((Int) × (Int × Int × Int) × List Nat) := fun S => match (S.tm 4).unK, (S.tm 6).unK, (S.tm 7).unK, (S.tm 8).unK with
  | .int .u32 q0, .int .u32 q1, .int .u32 q2, .int .i64 q3 => some (q0, (q1, q2, q3), [])
  | _, _, _, _ => none
def internal_bytealg_hashStr_string__loop1_post (p : Int) (r : Int) : DT (Ex × St) := .leaf (.exit 2, LSt [.junk, .junk, .junk, .junk, .int .u32 p, .junk, .int .u32 r] [])
def internal_bytealg_hashStr_string__loop1 (p : Int) (s : Int × Int × Int) : Int := loopVal (internal_bytealg_hashStr_string__loop1_step p) s
def internal_bytealg_hashStr_string__loop1_ends (p : Int) (s : Int × Int × Int) : Bool := loopEnds (internal_bytealg_hashStr_string__loop1_step p) s
def internal_bytealg_hashStr_string__loop1_F : LoopF := loopF internal_bytealg_hashStr_string__loop1_step internal_bytealg_hashStr_string__loop1_ext internal_bytealg_hashStr_string__loop1_post
theorem internal_bytealg_hashStr_string__loop1_hext : ∀ S p s fl, internal_bytealg_hashStr_string__loop1_ext S = some (p, s, fl) → Norm S fl ((internal_bytealg_hashStr_string__loop1_L p).tl s) ((internal_bytealg_hashStr_string__loop1_L p).hl s) (internal_bytealg_hashStr_string__loop1_L p).gl := by
  intro S p s fl h
  unfold internal_bytealg_hashStr_string__loop1_ext at h
  (repeat' split at h) <;> first
    | (cases h; constructor <;> simp_all [internal_bytealg_hashStr_string__loop1_L, keepT, keepH, rens, renH, PV.ren, Blk.ren, fOf, lget, nodup, natIn, lenEq, gtm, PV.unK])
    | cases h
theorem internal_bytealg_hashStr_string__loop1_hpost : ∀ p r e S', (internal_bytealg_hashStr_string__loop1_post p r).get = some (e, S') → e = (internal_bytealg_hashStr_string__loop1_L p).ex r ∧ S' = LSt ((internal_bytealg_hashStr_string__loop1_L p).otl r) ((internal_bytealg_hashStr_string__loop1_L p).ohl r) ((internal_bytealg_hashStr_string__loop1_L p).ogl r) := by
  intro p r e S' h
  unfold internal_bytealg_hashStr_string__loop1_post at h
  simp only [DT.get, Option.some.injEq, Prod.mk.injEq] at h; exact ⟨h.1.symm, h.2.symm⟩

def internal_bytealg_hashStr_string__loops : Nat → Option LoopF := loopTab [(3, internal_bytealg_hashStr_string__loop0_F), (8, internal_bytealg_hashStr_string__loop1_F)]
set_option maxRecDepth 100000 in
theorem internal_bytealg_hashStr_string__l1 : LoopOK Tryd.prog ⟨gam [], tab, 39, internal_bytealg_hashStr_string__loops⟩ (lp Tryd.f87 1) :=
  loopOK_some (F := internal_bytealg_hashStr_string__loop1_F) (by kernel_rfl) (loopF_ok (E := ⟨gam [], tab, 39, internal_bytealg_hashStr_string__loops⟩) ⟨gam_nil, tab_ok, by kernel_rfl⟩ (fuel := 100000) (loopsOK_list (l := []) (by kernel_rfl) trivial) (L := internal_bytealg_hashStr_string__loop1_L) (fun p s => by unfold AgreeL; exact ⟨by kernel_rfl, by kernel_rfl⟩) (fun _ _ h => Ex.noConfusion h) internal_bytealg_hashStr_string__loop1_hext internal_bytealg_hashStr_string__loop1_hpost)
set_option maxRecDepth 100000 in
theorem internal_bytealg_hashStr_string__l0 : LoopOK Tryd.prog ⟨gam [], tab, 39, internal_bytealg_hashStr_string__loops⟩ (lp Tryd.f87 0) :=
  loopOK_some (F := internal_bytealg_hashStr_string__loop0_F) (by kernel_rfl) (loopF_ok (E := ⟨gam [], tab, 39, internal_bytealg_hashStr_string__loops⟩) ⟨gam_nil, tab_ok, by kernel_rfl⟩ (fuel := 100000) (loopsOK_list (l := []) (by kernel_rfl) trivial) (L := internal_bytealg_hashStr_string__loop0_L) (fun p s => by unfold AgreeL; exact ⟨by kernel_rfl, by kernel_rfl⟩) (fun _ _ h => Ex.noConfusion h) internal_bytealg_hashStr_string__loop0_hext internal_bytealg_hashStr_string__loop0_hpost)
/-- internal/bytealg.hashStr[string] -/
def internal_bytealg_hashStr_string__tree (a0 : (List UInt8)) : DT (Int × Int) :=
  .need ((internal_bytealg_hashStr_string__loop0_ends a0 (0, 0))) (
  let x0 := internal_bytealg_hashStr_string__loop0 a0 (0, 0);
  let x1 := ((List.length a0 : Nat) : Int);
  .need ((internal_bytealg_hashStr_string__loop1_ends x0 (1, 16777619, x1))) (
  let x2 := internal_bytealg_hashStr_string__loop1 x0 (1, 16777619, x1);
  .leaf (x0, x2)))
def internal_bytealg_hashStr_string_ (a0 : (List UInt8)) : Int × Int := (internal_bytealg_hashStr_string__tree a0).val
def internal_bytealg_hashStr_string__need (a0 : (List UInt8)) : Bool := (internal_bytealg_hashStr_string__tree a0).ok
def internal_bytealg_hashStr_string__mk (p : Int × Int) : Ret := ⟨.tup [.int .u32 p.1, .int .u32 p.2], []⟩
def internal_bytealg_hashStr_string__c : Con := fun args => match args with
  | [.str a0] => some (.need (internal_bytealg_hashStr_string__need a0) (.leaf (internal_bytealg_hashStr_string__mk (internal_bytealg_hashStr_string_ a0))))
  | _ => none
set_option maxRecDepth 100000 in
theorem internal_bytealg_hashStr_string__ok : FunOK Tryd.prog 87 internal_bytealg_hashStr_string__c.fn := by
  refine con_ok (Γ := gam []) (gam_nil) tab_ok (by kernel_rfl) Tryd.func87 (by kernel_rfl) (by kernel_rfl) Tryd.ntmps87 Tryd.results87 (loops := internal_bytealg_hashStr_string__loops) (loopsOK_list (l := [lp Tryd.f87 0, lp Tryd.f87 1]) (by kernel_rfl) ⟨internal_bytealg_hashStr_string__l0, ⟨internal_bytealg_hashStr_string__l1, trivial⟩⟩) 100000 fun args t h => ?_
  unfold internal_bytealg_hashStr_string__c at h
  split at h
  · rename_i a0
    cases h
    exact ⟨rfl, agree_need (mk := internal_bytealg_hashStr_string__mk) (t := internal_bytealg_hashStr_string__tree a0) (by unfold Agree; kernel_rfl)⟩
  · cases h

/-- a loop of internal_bytealg_IndexRabinKarp_string_ -/
def internal_bytealg_IndexRabinKarp_string__loop0_step (p : (List UInt8) × (List UInt8) × Int × Int × Int) (s : Int × Int) : Round (Int × Int) (Int) :=
  let x0 := decide (s.2 < p.2.2.2.2);
  .ask x0
  (
   let x1 := IntKind.wrap .u32 (s.1 * 16777619);
   .need ((decide (0 ≤ s.2) && decide (s.2 < ((List.length p.1 : Nat) : Int)))) (
   let x2 := ((List.getD (p.1 : List UInt8) (Int.toNat s.2) 0).toNat : Int);
   let x3 := IntKind.wrap .u32 x2;
   let x4 := IntKind.wrap .u32 (x1 + x3);
   let x5 := IntKind.wrap .i64 (s.2 + 1);
   .leaf (.inl (x4, x5), [])))
  (
   .leaf (.inr s.1, []))
def internal_bytealg_IndexRabinKarp_string__loop0_L (p : (List UInt8) × (List UInt8) × Int × Int × Int) : LoopS (Int × Int) (Int) := { tl := fun s => [.str p.1, .str p.2.1, .junk, .junk, .junk, .int .u32 p.2.2.1, .int .u32 p.2.2.2.1, .int .i64 p.2.2.2.2, .int .u32 s.1, .int .i64 s.2], hl := fun s => [], ex := fun r => .exit 0, otl := fun r => [.str p.1, .str p.2.1, .junk, .junk, .junk, .int .u32 p.2.2.1, .int .u32 p.2.2.2.1, .int .i64 p.2.2.2.2, .int .u32 r], ohl := fun r => [] }
def internal_bytealg_IndexRabinKarp_string__loop0_ext : St → Option (((List UInt8) × (List UInt8) × Int × Int × Int) × (Int × Int) × List Nat) := fun S => match (S.tm 0).unK, (S.tm 1).unK, (S.tm 5).unK, (S.tm 6).unK, (S.tm 7).unK, (S.tm 8).unK, (S.tm 9).unK with
  | .str q0, .str q1, .int .u32 q2, .int .u32 q3, .int .i64 q4, .int .u32 q5, .int .i64 q6 => some ((q0, q1, q2, q3, q4), (q5, q6), [])
  | _, _, _, _, _, _, _ => none
def internal_bytealg_IndexRabinKarp_string__loop0_post (p : (List UInt8) × (List UInt8) × Int × Int × Int) (r : Int) : DT (Ex × St) := .leaf (.exit 0, LSt [.str p.1, .str p.2.1, .junk, .junk, .junk, .int .u32 p.2.2.1, .int .u32 p.2.2.2.1, .int .i64 p.2.2.2.2, .int .u32 r] [])
def internal_bytealg_IndexRabinKarp_string__loop0 (p : (List UInt8) × (List UInt8) × Int × Int × Int) (s : Int × Int) : Int := loopVal (internal_bytealg_IndexRabinKarp_string__loop0_step p) s
def internal_bytealg_IndexRabinKarp_string__loop0_ends (p : (List UInt8) × (List UInt8) × Int × Int × Int) (s : Int × Int) : Bool := loopEnds (internal_bytealg_IndexRabinKarp_string__loop0_step p) s
def internal_bytealg_IndexRabinKarp_string__loop0_F : LoopF := loopF internal_bytealg_IndexRabinKarp_string__loop0_step internal_bytealg_IndexRabinKarp_string__loop0_ext internal_bytealg_IndexRabinKarp_string__loop0_post
theorem internal_bytealg_IndexRabinKarp_string__loop0_hext : ∀ S p s fl, internal_bytealg_IndexRabinKarp_string__loop0_ext S = some (p, s, fl) → Norm S fl ((internal_bytealg_IndexRabinKarp_string__loop0_L p).tl s) ((internal_bytealg_IndexRabinKarp_string__loop0_L p).hl s) (internal_bytealg_IndexRabinKarp_string__loop0_L p).gl := by
  intro S p s fl h
  unfold internal_bytealg_IndexRabinKarp_string__loop0_ext at h
  (repeat' split at h) <;> first
    | (cases h; constructor <;> simp_all [internal_bytealg_IndexRabinKarp_string__loop0_L, keepT, keepH, rens, renH, PV.ren, Blk.ren, fOf, lget, nodup, natIn, lenEq, gtm, PV.unK])
    | cases h
theorem internal_bytealg_IndexRabinKarp_string__loop0_hpost : ∀ p r e S', (internal_bytealg_IndexRabinKarp_string__loop0_post p r).get = some (e, S') → e = (internal_bytealg_IndexRabinKarp_string__loop0_L p).ex r ∧ S' = LSt ((internal_bytealg_IndexRabinKarp_string__loop0_L p).otl r) ((internal_bytealg_IndexRabinKarp_string__loop0_L p).ohl r) ((internal_bytealg_IndexRabinKarp_string__loop0_L p).ogl r) := by
  intro p r e S' h
  unfold internal_bytealg_IndexRabinKarp_string__loop0_post at h
  simp only [DT.get, Option.some.injEq, Prod.mk.injEq] at h; exact ⟨h.1.symm, h.2.symm⟩

/-- a loop of internal_bytealg_IndexRabinKarp_string_ -/
def internal_bytealg_IndexRabinKarp_string__loop1_step (p : (List UInt8) × (List UInt8) × Int × Int × Int) (s : Int × Int) : Round (Int × Int) ((Int) ⊕ (Unit)) :=
  let x0 := ((List.length p.1 : Nat) : Int);
  let x1 := decide (s.2 < x0);
  .ask x1
  (
   let x2 := IntKind.wrap .u32 (s.1 * 16777619);
   .need ((decide (0 ≤ s.2) && decide (s.2 < ((List.length p.1 : Nat) : Int)))) (
   let x3 := ((List.getD (p.1 : List UInt8) (Int.toNat s.2) 0).toNat : Int);
   let x4 := IntKind.wrap .u32 x3;
   let x5 := IntKind.wrap .u32 (x2 + x4);
   let x6 := IntKind.wrap .i64 (s.2 - p.2.2.2.2);
   .need ((decide (0 ≤ x6) && decide (x6 < ((List.length p.1 : Nat) : Int)))) (
   let x7 := ((List.getD (p.1 : List UInt8) (Int.toNat x6) 0).toNat : Int);
   let x8 := IntKind.wrap .u32 x7;
   let x9 := IntKind.wrap .u32 (p.2.2.2.1 * x8);
   let x10 := IntKind.wrap .u32 (x5 - x9);
   let x11 := IntKind.wrap .i64 (s.2 + 1);
   let x12 := (x10 == p.2.2.1);
   .ask x12
   (
    let x13 := IntKind.wrap .i64 (x11 - p.2.2.2.2);
    .need ((decide (0 ≤ x11) && decide (x11 ≤ ((List.length p.1 : Nat) : Int)))) (
    .need ((decide (0 ≤ x13) && decide (x13 ≤ (((Int.toNat x11) : Nat) : Int)))) (
    let x14 := List.drop (Int.toNat x13) (List.take (Int.toNat x11) p.1);
    let x15 := (x14 == p.2.1);
    .ask x15
    (
     let x16 := IntKind.wrap .i64 (x11 - p.2.2.2.2);
     .leaf (.inr (.inl x16), []))
    (
     .leaf (.inl (x10, x11), [])))))
   (
    .leaf (.inl (x10, x11), [])))))
  (
   .leaf (.inr (.inr ()), []))
def internal_bytealg_IndexRabinKarp_string__loop1_L (p : (List UInt8) × (List UInt8) × Int × Int × Int) : LoopS (Int × Int) ((Int) ⊕ (Unit)) := { tl := fun s => [.str p.1, .str p.2.1, .junk, .junk, .junk, .int .u32 p.2.2.1, .int .u32 p.2.2.2.1, .int .i64 p.2.2.2.2, .int .u32 s.1, .junk, .int .i64 s.2], hl := fun s => [], ex := fun r => match r with | .inl r => .ret | .inr r => .exit 2, otl := fun r => match r with | .inl r => [.junk, .junk, .junk, .junk, .int .i64 r] | .inr r => [.junk], ohl := fun r => match r with | .inl r => [] | .inr r => [] }
def internal_bytealg_IndexRabinKarp_string__loop1_ext : St → Option (((List UInt8) × (List UInt8) × Int × Int × Int) × (Int × Int) × List Nat) := fun S => match (S.tm 0).unK, (S.tm 1).unK, (S.tm 5).unK, (S.tm 6).unK, (S.tm 7).unK, (S.tm 8).unK, (S.tm 10).unK with
  | .str q0, .str q1, .int .u32 q2, .int .u32 q3, .int .i64 q4, .int .u32 q5, .int .i64 q6 => some ((q0, q1, q2, q3, q4), (q5, q6), [])
  | _, _, _, _, _, _, _ => none
def internal_bytealg_IndexRabinKarp_string__loop1_post (p : (List UInt8) × (List UInt8) × Int × Int × Int) (r : (Int) ⊕ (Unit)) : DT (Ex × St) := .ask (isL r) (.leaf (.ret, LSt [.junk, .junk, .junk, .junk, .int .i64 ((leftD r))] [])) (.leaf (.exit 2, LSt [.junk] []))
def internal_bytealg_IndexRabinKarp_string__loop1 (p : (List UInt8) × (List UInt8) × Int × Int × Int) (s : Int × Int) : (Int) ⊕ (Unit) := loopVal (internal_bytealg_IndexRabinKarp_string__loop1_step p) s
def internal_bytealg_IndexRabinKarp_string__loop1_ends (p : (List UInt8) × (List UInt8) × Int × Int × Int) (s : Int × Int) : Bool := loopEnds (internal_bytealg_IndexRabinKarp_string__loop1_step p) s
def internal_bytealg_IndexRabinKarp_string__loop1_F : LoopF := loopF internal_bytealg_IndexRabinKarp_string__loop1_step internal_bytealg_IndexRabinKarp_string__loop1_ext internal_bytealg_IndexRabinKarp_string__loop1_post
theorem internal_bytealg_IndexRabinKarp_string__loop1_hext : ∀ S p s fl, internal_bytealg_IndexRabinKarp_string__loop1_ext S = some (p, s, fl) → Norm S fl ((internal_bytealg_IndexRabinKarp_string__loop1_L p).tl s) ((internal_bytealg_IndexRabinKarp_string__loop1_L p).hl s) (internal_bytealg_IndexRabinKarp_string__loop1_L p).gl := by
  intro S p s fl h
  unfold internal_bytealg_IndexRabinKarp_string__loop1_ext at h
  (repeat' split at h) <;> first
    | (cases h; constructor <;> simp_all [internal_bytealg_IndexRabinKarp_string__loop1_L, keepT, keepH, rens, renH, PV.ren, Blk.ren, fOf, lget, nodup, natIn, lenEq, gtm, PV.unK])
    | cases h
theorem internal_bytealg_IndexRabinKarp_string__loop1_hpost : ∀ p r e S', (internal_bytealg_IndexRabinKarp_string__loop1_post p r).get = some (e, S') → e = (internal_bytealg_IndexRabinKarp_string__loop1_L p).ex r ∧ S' = LSt ((internal_bytealg_IndexRabinKarp_string__loop1_L p).otl r) ((internal_bytealg_IndexRabinKarp_string__loop1_L p).ohl r) ((internal_bytealg_IndexRabinKarp_string__loop1_L p).ogl r) := by
  intro p r e S' h
  unfold internal_bytealg_IndexRabinKarp_string__loop1_post at h
  cases r <;> (simp only [isL, DT.get, Option.some.injEq, Prod.mk.injEq] at h; exact ⟨h.1.symm, h.2.symm⟩)

def internal_bytealg_IndexRabinKarp_string__loops : Nat → Option LoopF := loopTab [(5, internal_bytealg_IndexRabinKarp_string__loop0_F), (11, internal_bytealg_IndexRabinKarp_string__loop1_F)]
set_option maxRecDepth 100000 in
theorem internal_bytealg_IndexRabinKarp_string__l1 : LoopOK Tryd.prog ⟨gam [(87, internal_bytealg_hashStr_string__c)], tab, 81, internal_bytealg_IndexRabinKarp_string__loops⟩ (lp Tryd.f76 1) :=
  loopOK_some (F := internal_bytealg_IndexRabinKarp_string__loop1_F) (by kernel_rfl) (loopF_ok (E := ⟨gam [(87, internal_bytealg_hashStr_string__c)], tab, 81, internal_bytealg_IndexRabinKarp_string__loops⟩) ⟨gam_cons internal_bytealg_hashStr_string__ok (gam_nil), tab_ok, by kernel_rfl⟩ (fuel := 100000) (loopsOK_list (l := []) (by kernel_rfl) trivial) (L := internal_bytealg_IndexRabinKarp_string__loop1_L) (fun p s => by unfold AgreeL; exact ⟨by kernel_rfl, by kernel_rfl⟩) (fun _ r h => by cases r <;> exact Ex.noConfusion h) internal_bytealg_IndexRabinKarp_string__loop1_hext internal_bytealg_IndexRabinKarp_string__loop1_hpost)
set_option maxRecDepth 100000 in
theorem internal_bytealg_IndexRabinKarp_string__l0 : LoopOK Tryd.prog ⟨gam [(87, internal_bytealg_hashStr_string__c)], tab, 81, internal_bytealg_IndexRabinKarp_string__loops⟩ (lp Tryd.f76 0) :=
  loopOK_some (F := internal_bytealg_IndexRabinKarp_string__loop0_F) (by kernel_rfl) (loopF_ok (E := ⟨gam [(87, internal_bytealg_hashStr_string__c)], tab, 81, internal_bytealg_IndexRabinKarp_string__loops⟩) ⟨gam_cons internal_bytealg_hashStr_string__ok (gam_nil), tab_ok, by kernel_rfl⟩ (fuel := 100000) (loopsOK_list (l := []) (by kernel_rfl) trivial) (L := internal_bytealg_IndexRabinKarp_string__loop0_L) (fun p s => by unfold AgreeL; exact ⟨by kernel_rfl, by kernel_rfl⟩) (fun _ _ h => Ex.noConfusion h) internal_bytealg_IndexRabinKarp_string__loop0_hext internal_bytealg_IndexRabinKarp_string__loop0_hpost)
/-- internal/bytealg.IndexRabinKarp[string] -/
def internal_bytealg_IndexRabinKarp_string__tree (a0 : (List UInt8)) (a1 : (List UInt8)) : DT (Int) :=
  .need ((internal_bytealg_hashStr_string__need a1)) (
  let x0 := internal_bytealg_hashStr_string_ a1;
  let x1 := ((List.length a1 : Nat) : Int);
  .need ((internal_bytealg_IndexRabinKarp_string__loop0_ends (a0, a1, x0.1, x0.2, x1) (0, 0))) (
  let x2 := internal_bytealg_IndexRabinKarp_string__loop0 (a0, a1, x0.1, x0.2, x1) (0, 0);
  let x3 := (x2 == x0.1);
  .ask x3
  (
   .need ((decide (0 ≤ x1) && decide (x1 ≤ ((List.length a0 : Nat) : Int)))) (
   let x4 := List.drop 0 (List.take (Int.toNat x1) a0);
   let x5 := (x4 == a1);
   .ask x5
   (
    .leaf 0)
   (
    .need ((internal_bytealg_IndexRabinKarp_string__loop1_ends (a0, a1, x0.1, x0.2, x1) (x2, x1))) (
    let x6 := internal_bytealg_IndexRabinKarp_string__loop1 (a0, a1, x0.1, x0.2, x1) (x2, x1);
    .ask ((isL x6))
    (
     .leaf ((leftD x6)))
    (
     .leaf (-1))))))
  (
   .need ((internal_bytealg_IndexRabinKarp_string__loop1_ends (a0, a1, x0.1, x0.2, x1) (x2, x1))) (
   let x4 := internal_bytealg_IndexRabinKarp_string__loop1 (a0, a1, x0.1, x0.2, x1) (x2, x1);
   .ask ((isL x4))
   (
    .leaf ((leftD x4)))
   (
    .leaf (-1))))))
def internal_bytealg_IndexRabinKarp_string_ (a0 : (List UInt8)) (a1 : (List UInt8)) : Int := (internal_bytealg_IndexRabinKarp_string__tree a0 a1).val
def internal_bytealg_IndexRabinKarp_string__need (a0 : (List UInt8)) (a1 : (List UInt8)) : Bool := (internal_bytealg_IndexRabinKarp_string__tree a0 a1).ok
def internal_bytealg_IndexRabinKarp_string__mk (p : Int) : Ret := ⟨.int .i64 p, []⟩
def internal_bytealg_IndexRabinKarp_string__c : Con := fun args => match args with
  | [.str a0, .str a1] => some (.need (internal_bytealg_IndexRabinKarp_string__need a0 a1) (.leaf (internal_bytealg_IndexRabinKarp_string__mk (internal_bytealg_IndexRabinKarp_string_ a0 a1))))
  | _ => none
set_option maxRecDepth 100000 in
theorem internal_bytealg_IndexRabinKarp_string__ok : FunOK Tryd.prog 76 internal_bytealg_IndexRabinKarp_string__c.fn := by
  refine con_ok (Γ := gam [(87, internal_bytealg_hashStr_string__c)]) (gam_cons internal_bytealg_hashStr_string__ok (gam_nil)) tab_ok (by kernel_rfl) Tryd.func76 (by kernel_rfl) (by kernel_rfl) Tryd.ntmps76 Tryd.results76 (loops := internal_bytealg_IndexRabinKarp_string__loops) (loopsOK_list (l := [lp Tryd.f76 0, lp Tryd.f76 1]) (by kernel_rfl) ⟨internal_bytealg_IndexRabinKarp_string__l0, ⟨internal_bytealg_IndexRabinKarp_string__l1, trivial⟩⟩) 100000 fun args t h => ?_
  unfold internal_bytealg_IndexRabinKarp_string__c at h
  split at h
  · rename_i a0 a1
    cases h
    exact ⟨rfl, agree_need (mk := internal_bytealg_IndexRabinKarp_string__mk) (t := internal_bytealg_IndexRabinKarp_string__tree a0 a1) (by unfold Agree; kernel_rfl)⟩
  · cases h

-- FAILED 57 internal/stringslite.Index: global

-- FAILED 39 strings.Index: no contract: internal/stringslite.Index 

-- FAILED 38 strings.Count: no contract: unicode/utf8.RuneCountInString 

-- FAILED 28 strings.genSplit: no contract: strings.explode 

-- FAILED 20 strings.Split: no contract: strings.genSplit 

/-- strings.Count -/
def strings_Count_k44_tree (a0 : (List UInt8)) : DT (Int) :=
  .skip (
  .skip (
  .skip (
  let x0 := ((Go.Lib.countByte a0 (Nat.toUInt8 (Int.toNat 44)) : Nat) : Int);
  .leaf x0)))
def strings_Count_k44 (a0 : (List UInt8)) : Int := (strings_Count_k44_tree a0).val
def strings_Count_k44_mk (p : Int) : Ret := ⟨.int .i64 p, []⟩
def strings_Count_k44_c : Con := fun args => match args with
  | [.str a0, .str a1] => bif decide (a1 = ([44] : List UInt8)) then (some (.leaf (strings_Count_k44_mk (strings_Count_k44 a0)))) else none
  | _ => none
set_option maxRecDepth 100000 in
theorem strings_Count_k44_ok : FunOK Tryd.prog 38 strings_Count_k44_c.fn := by
  refine con_ok (Γ := gam [(56, internal_bytealg_CountString_c)]) (gam_cons internal_bytealg_CountString_ok (gam_nil)) tab_ok (by kernel_rfl) Tryd.func38 (by kernel_rfl) (by kernel_rfl) Tryd.ntmps38 Tryd.results38 (loopsOK_none rfl _) 100000 fun args t h => ?_
  unfold strings_Count_k44_c at h
  split at h
  · rename_i a0 a1
    obtain ⟨hk1, h⟩ := bif_some h
    subst hk1
    cases h
    exact ⟨rfl, agree_tot (mk := strings_Count_k44_mk) (t := strings_Count_k44_tree a0) (by unfold Agree; kernel_rfl) (by kernel_rfl)⟩
  · cases h

/-- internal/stringslite.Index -/
def internal_stringslite_Index_k44_tree (a0 : (List UInt8)) : DT (Int) :=
  .skip (
  .skip (
  .skip (
  let x0 := ([44] == a0);
  .skip (
  .ask x0
  (
   .leaf 0)
  (
   .skip (
   .skip (
   let x1 := internal_stringslite_IndexByte a0 44;
   .leaf x1)))))))
def internal_stringslite_Index_k44 (a0 : (List UInt8)) : Int := (internal_stringslite_Index_k44_tree a0).val
def internal_stringslite_Index_k44_mk (p : Int) : Ret := ⟨.int .i64 p, []⟩
def internal_stringslite_Index_k44_c : Con := fun args => match args with
  | [.str a0, .str a1] => bif decide (a1 = ([44] : List UInt8)) then (some (.leaf (internal_stringslite_Index_k44_mk (internal_stringslite_Index_k44 a0)))) else none
  | _ => none
set_option maxRecDepth 100000 in
theorem internal_stringslite_Index_k44_ok : FunOK Tryd.prog 57 internal_stringslite_Index_k44_c.fn := by
  refine con_ok (Γ := gam [(73, internal_stringslite_IndexByte_c)]) (gam_cons internal_stringslite_IndexByte_ok (gam_nil)) tab_ok (by kernel_rfl) Tryd.func57 (by kernel_rfl) (by kernel_rfl) Tryd.ntmps57 Tryd.results57 (loopsOK_none rfl _) 100000 fun args t h => ?_
  unfold internal_stringslite_Index_k44_c at h
  split at h
  · rename_i a0 a1
    obtain ⟨hk1, h⟩ := bif_some h
    subst hk1
    cases h
    exact ⟨rfl, agree_tot (mk := internal_stringslite_Index_k44_mk) (t := internal_stringslite_Index_k44_tree a0) (by unfold Agree; kernel_rfl) (by kernel_rfl)⟩
  · cases h

/-- strings.Index -/
def strings_Index_k44_tree (a0 : (List UInt8)) : DT (Int) :=
  let x0 := internal_stringslite_Index_k44 a0;
  .leaf x0
def strings_Index_k44 (a0 : (List UInt8)) : Int := (strings_Index_k44_tree a0).val
def strings_Index_k44_mk (p : Int) : Ret := ⟨.int .i64 p, []⟩
def strings_Index_k44_c : Con := fun args => match args with
  | [.str a0, .str a1] => bif decide (a1 = ([44] : List UInt8)) then (some (.leaf (strings_Index_k44_mk (strings_Index_k44 a0)))) else none
  | _ => none
set_option maxRecDepth 100000 in
theorem strings_Index_k44_ok : FunOK Tryd.prog 39 strings_Index_k44_c.fn := by
  refine con_ok (Γ := gam [(57, internal_stringslite_Index_k44_c)]) (gam_cons internal_stringslite_Index_k44_ok (gam_nil)) tab_ok (by kernel_rfl) Tryd.func39 (by kernel_rfl) (by kernel_rfl) Tryd.ntmps39 Tryd.results39 (loopsOK_none rfl _) 100000 fun args t h => ?_
  unfold strings_Index_k44_c at h
  split at h
  · rename_i a0 a1
    obtain ⟨hk1, h⟩ := bif_some h
    subst hk1
    cases h
    exact ⟨rfl, agree_tot (mk := strings_Index_k44_mk) (t := strings_Index_k44_tree a0) (by unfold Agree; kernel_rfl) (by kernel_rfl)⟩
  · cases h

/-- a loop of strings_genSplit_k44_k0_m1 -/
def strings_genSplit_k44_k0_m1_loop0_step (p : Int × Int) (s : (List UInt8) × Int × List (List UInt8)) : Round ((List UInt8) × Int × List (List UInt8)) ((List UInt8) × Int × List (List UInt8)) :=
  let x0 := decide (s.2.1 < p.2);
  .ask x0
  (
   let x1 := strings_Index_k44 s.1;
   let x2 := decide (x1 < 0);
   .ask x2
   (
    .leaf (.inr (s.1, s.2.1, s.2.2), [0]))
   (
    let x3 := IntKind.wrap .i64 (x1 + p.1);
    .need ((decide (0 ≤ x3) && decide (x3 ≤ ((List.length s.1 : Nat) : Int)))) (
    let x4 := List.drop 0 (List.take (Int.toNat x3) s.1);
    .need ((decide (0 ≤ s.2.1) && decide (s.2.1 < ((List.length s.2.2 : Nat) : Int)))) (
    .need ((decide ((Int.toNat s.2.1) < List.length s.2.2))) (
    let x5 := List.set s.2.2 (Int.toNat s.2.1) x4;
    let x6 := IntKind.wrap .i64 (x1 + 1);
    .need ((decide (0 ≤ x6) && decide (x6 ≤ (((List.length s.1) : Nat) : Int)))) (
    let x7 := List.drop (Int.toNat x6) (List.take (List.length s.1) s.1);
    let x8 := IntKind.wrap .i64 (s.2.1 + 1);
    .leaf (.inl (x7, x8, x5), [0])))))))
  (
   .leaf (.inr (s.1, s.2.1, s.2.2), [0]))
def strings_genSplit_k44_k0_m1_loop0_L (p : Int × Int) : LoopS ((List UInt8) × Int × List (List UInt8)) ((List UInt8) × Int × List (List UInt8)) := { tl := fun s => [.str s.1, .str [44], .int .i64 p.1, .int .i64 p.2, .junk, .junk, .junk, .junk, .junk, .own 0, .int .i64 s.2.1], hl := fun s => [some (.typed 9 .str s.2.2)], ex := fun r => .exit 0, otl := fun r => [.str r.1, .junk, .junk, .junk, .junk, .junk, .junk, .junk, .junk, .own 0, .int .i64 r.2.1], ohl := fun r => [some (.typed 9 .str r.2.2)] }
def strings_genSplit_k44_k0_m1_loop0_ext : St → Option ((Int × Int) × ((List UInt8) × Int × List (List UInt8)) × List Nat) := fun S => match (S.tm 0).unK, (S.tm 1).unK, (S.tm 2).unK, (S.tm 3).unK, (S.tm 9).unK, (S.tm 10).unK with
  | .str q0, .str q1, .int .i64 q2, .int .i64 q3, .own i0, .int .i64 q4 => (match S.hp i0 with
    | some (.typed 9 .str q5) => (if q1 = ([44] : List UInt8) then some ((q2, q3), (q0, q4, q5), [i0]) else none)
    | _ => none)
  | _, _, _, _, _, _ => none
def strings_genSplit_k44_k0_m1_loop0_post (p : Int × Int) (r : (List UInt8) × Int × List (List UInt8)) : DT (Ex × St) := .leaf (.exit 0, LSt [.str r.1, .junk, .junk, .junk, .junk, .junk, .junk, .junk, .junk, .own 0, .int .i64 r.2.1] [some (.typed 9 .str r.2.2)])
def strings_genSplit_k44_k0_m1_loop0 (p : Int × Int) (s : (List UInt8) × Int × List (List UInt8)) : (List UInt8) × Int × List (List UInt8) := loopVal (strings_genSplit_k44_k0_m1_loop0_step p) s
def strings_genSplit_k44_k0_m1_loop0_ends (p : Int × Int) (s : (List UInt8) × Int × List (List UInt8)) : Bool := loopEnds (strings_genSplit_k44_k0_m1_loop0_step p) s
def strings_genSplit_k44_k0_m1_loop0_F : LoopF := loopF strings_genSplit_k44_k0_m1_loop0_step strings_genSplit_k44_k0_m1_loop0_ext strings_genSplit_k44_k0_m1_loop0_post
theorem strings_genSplit_k44_k0_m1_loop0_hext : ∀ S p s fl, strings_genSplit_k44_k0_m1_loop0_ext S = some (p, s, fl) → Norm S fl ((strings_genSplit_k44_k0_m1_loop0_L p).tl s) ((strings_genSplit_k44_k0_m1_loop0_L p).hl s) (strings_genSplit_k44_k0_m1_loop0_L p).gl := by
  intro S p s fl h
  unfold strings_genSplit_k44_k0_m1_loop0_ext at h
  (repeat' split at h) <;> first
    | (cases h; constructor <;> simp_all [strings_genSplit_k44_k0_m1_loop0_L, keepT, keepH, rens, renH, PV.ren, Blk.ren, fOf, lget, nodup, natIn, lenEq, gtm, PV.unK])
    | cases h
theorem strings_genSplit_k44_k0_m1_loop0_hpost : ∀ p r e S', (strings_genSplit_k44_k0_m1_loop0_post p r).get = some (e, S') → e = (strings_genSplit_k44_k0_m1_loop0_L p).ex r ∧ S' = LSt ((strings_genSplit_k44_k0_m1_loop0_L p).otl r) ((strings_genSplit_k44_k0_m1_loop0_L p).ohl r) ((strings_genSplit_k44_k0_m1_loop0_L p).ogl r) := by
  intro p r e S' h
  unfold strings_genSplit_k44_k0_m1_loop0_post at h
  simp only [DT.get, Option.some.injEq, Prod.mk.injEq] at h; exact ⟨h.1.symm, h.2.symm⟩

def strings_genSplit_k44_k0_m1_loops : Nat → Option LoopF := loopTab [(11, strings_genSplit_k44_k0_m1_loop0_F)]
set_option maxRecDepth 100000 in
theorem strings_genSplit_k44_k0_m1_l0 : LoopOK Tryd.prog ⟨gam [(38, strings_Count_k44_c), (39, strings_Index_k44_c)], tab, 66, strings_genSplit_k44_k0_m1_loops⟩ (lp Tryd.f28 0) :=
  loopOK_some (F := strings_genSplit_k44_k0_m1_loop0_F) (by kernel_rfl) (loopF_ok (E := ⟨gam [(38, strings_Count_k44_c), (39, strings_Index_k44_c)], tab, 66, strings_genSplit_k44_k0_m1_loops⟩) ⟨gam_cons strings_Count_k44_ok (gam_cons strings_Index_k44_ok (gam_nil)), tab_ok, by kernel_rfl⟩ (fuel := 100000) (loopsOK_list (l := []) (by kernel_rfl) trivial) (L := strings_genSplit_k44_k0_m1_loop0_L) (fun p s => by unfold AgreeL; exact ⟨by kernel_rfl, by kernel_rfl⟩) (fun _ _ h => Ex.noConfusion h) strings_genSplit_k44_k0_m1_loop0_hext strings_genSplit_k44_k0_m1_loop0_hpost)
/-- strings.genSplit -/
def strings_genSplit_k44_k0_m1_tree (a0 : (List UInt8)) : DT (List (List UInt8)) :=
  .skip (
  .skip (
  .skip (
  let x0 := strings_Count_k44 a0;
  let x1 := IntKind.wrap .i64 (x0 + 1);
  let x2 := ((List.length a0 : Nat) : Int);
  let x3 := IntKind.wrap .i64 (x2 + 1);
  let x4 := (bif decide (x3 < x1) then x3 else x1);
  .need ((decide (0 ≤ x4) && decide (x4 ≤ x4) && decide (16 * x4 ≤ 281474976710656) && decide (x4 ≤ 9223372036854775807))) (
  let x5 := List.replicate (Int.toNat x4) [];
  let x6 := IntKind.wrap .i64 (x4 - 1);
  .need ((strings_genSplit_k44_k0_m1_loop0_ends (0, x6) (a0, 0, x5))) (
  let x7 := strings_genSplit_k44_k0_m1_loop0 (0, x6) (a0, 0, x5);
  .need ((decide (0 ≤ x7.2.1) && decide (x7.2.1 < ((List.length x7.2.2 : Nat) : Int)))) (
  .need ((decide ((Int.toNat x7.2.1) < List.length x7.2.2))) (
  let x8 := List.set x7.2.2 (Int.toNat x7.2.1) x7.1;
  let x9 := IntKind.wrap .i64 (x7.2.1 + 1);
  .need ((decide (0 ≤ x9) && decide (x9 ≤ ((List.length x8 : Nat) : Int)))) (
  .leaf ((List.take ((Int.toNat x9) - 0) x8))))))))))
def strings_genSplit_k44_k0_m1 (a0 : (List UInt8)) : List (List UInt8) := (strings_genSplit_k44_k0_m1_tree a0).val
def strings_genSplit_k44_k0_m1_need (a0 : (List UInt8)) : Bool := (strings_genSplit_k44_k0_m1_tree a0).ok
def strings_genSplit_k44_k0_m1_mk (p : List (List UInt8)) : Ret := ⟨.own 0, [.typed 9 .str p]⟩
def strings_genSplit_k44_k0_m1_c : Con := fun args => match args with
  | [.str a0, .str a1, .int .i64 a2, .int .i64 a3] => bif decide (a1 = ([44] : List UInt8)) then (bif decide (a2 = (0 : Int)) then (bif decide (a3 = ((-1) : Int)) then (some (.need (strings_genSplit_k44_k0_m1_need a0) (.leaf (strings_genSplit_k44_k0_m1_mk (strings_genSplit_k44_k0_m1 a0))))) else none) else none) else none
  | _ => none
set_option maxRecDepth 100000 in
theorem strings_genSplit_k44_k0_m1_ok : FunOK Tryd.prog 28 strings_genSplit_k44_k0_m1_c.fn := by
  refine con_ok (Γ := gam [(38, strings_Count_k44_c), (39, strings_Index_k44_c)]) (gam_cons strings_Count_k44_ok (gam_cons strings_Index_k44_ok (gam_nil))) tab_ok (by kernel_rfl) Tryd.func28 (by kernel_rfl) (by kernel_rfl) Tryd.ntmps28 Tryd.results28 (loops := strings_genSplit_k44_k0_m1_loops) (loopsOK_list (l := [lp Tryd.f28 0]) (by kernel_rfl) ⟨strings_genSplit_k44_k0_m1_l0, trivial⟩) 100000 fun args t h => ?_
  unfold strings_genSplit_k44_k0_m1_c at h
  split at h
  · rename_i a0 a1 a2 a3
    obtain ⟨hk1, h⟩ := bif_some h
    obtain ⟨hk2, h⟩ := bif_some h
    obtain ⟨hk3, h⟩ := bif_some h
    subst hk1 hk2 hk3
    cases h
    exact ⟨rfl, agree_need (mk := strings_genSplit_k44_k0_m1_mk) (t := strings_genSplit_k44_k0_m1_tree a0) (by unfold Agree; kernel_rfl)⟩
  · cases h

/-- strings.Split -/
def strings_Split_k44_tree (a0 : (List UInt8)) : DT (List (List UInt8)) :=
  .need ((strings_genSplit_k44_k0_m1_need a0)) (
  let x0 := strings_genSplit_k44_k0_m1 a0;
  .leaf x0)
def strings_Split_k44 (a0 : (List UInt8)) : List (List UInt8) := (strings_Split_k44_tree a0).val
def strings_Split_k44_need (a0 : (List UInt8)) : Bool := (strings_Split_k44_tree a0).ok
def strings_Split_k44_mk (p : List (List UInt8)) : Ret := ⟨.own 0, [.typed 9 .str p]⟩
def strings_Split_k44_c : Con := fun args => match args with
  | [.str a0, .str a1] => bif decide (a1 = ([44] : List UInt8)) then (some (.need (strings_Split_k44_need a0) (.leaf (strings_Split_k44_mk (strings_Split_k44 a0))))) else none
  | _ => none
set_option maxRecDepth 100000 in
theorem strings_Split_k44_ok : FunOK Tryd.prog 20 strings_Split_k44_c.fn := by
  refine con_ok (Γ := gam [(28, strings_genSplit_k44_k0_m1_c)]) (gam_cons strings_genSplit_k44_k0_m1_ok (gam_nil)) tab_ok (by kernel_rfl) Tryd.func20 (by kernel_rfl) (by kernel_rfl) Tryd.ntmps20 Tryd.results20 (loopsOK_none rfl _) 100000 fun args t h => ?_
  unfold strings_Split_k44_c at h
  split at h
  · rename_i a0 a1
    obtain ⟨hk1, h⟩ := bif_some h
    subst hk1
    cases h
    exact ⟨rfl, agree_need (mk := strings_Split_k44_mk) (t := strings_Split_k44_tree a0) (by unfold Agree; kernel_rfl)⟩
  · cases h

/-- loop.example/g01284/impl.apart -/
def impl_apart_tree (a0 : (List UInt8)) : DT ((Unit) ⊕ (List (List UInt8) × Bool)) :=
  let x0 := (a0 == [110, 111, 110, 101]);
  .ask x0
  (
   .leaf (.inl ()))
  (
   .need ((strings_Split_k44_need a0)) (
   let x1 := strings_Split_k44 a0;
   let x2 := ((List.length x1 : Nat) : Int);
   let x3 := decide (x2 ≤ 256);
   .leaf (.inr (x1, x3))))
def impl_apart (a0 : (List UInt8)) : (Unit) ⊕ (List (List UInt8) × Bool) := (impl_apart_tree a0).val
def impl_apart_need (a0 : (List UInt8)) : Bool := (impl_apart_tree a0).ok
def impl_apart_mk0 (p : Unit) : Ret := ⟨.tup [.nils, .bool true], []⟩
def impl_apart_mk1 (p : List (List UInt8) × Bool) : Ret := ⟨.tup [.own 0, .bool p.2], [.typed 9 .str p.1]⟩
def impl_apart_mk : (Unit) ⊕ (List (List UInt8) × Bool) → Ret := fun v => match v with
  | (.inl p) => impl_apart_mk0 p
  | (.inr p) => impl_apart_mk1 p
def impl_apart_forms (v : (Unit) ⊕ (List (List UInt8) × Bool)) : DT Ret := .ask (isL v) (.leaf (impl_apart_mk0 (leftD v))) (.leaf (impl_apart_mk1 (rightD v)))
theorem impl_apart_forms_get : ∀ v, (impl_apart_forms v).get = some (impl_apart_mk v) := by
  intro v
  rcases v with v | v <;> rfl
def impl_apart_c : Con := fun args => match args with
  | [.str a0] => some (.need (impl_apart_need a0) (impl_apart_forms (impl_apart a0)))
  | _ => none
set_option maxRecDepth 100000 in
theorem impl_apart_ok : FunOK Tryd.prog 13 impl_apart_c.fn := by
  refine con_ok (Γ := gam [(20, strings_Split_k44_c)]) (gam_cons strings_Split_k44_ok (gam_nil)) tab_ok (by kernel_rfl) Tryd.func13 (by kernel_rfl) (by kernel_rfl) Tryd.ntmps13 Tryd.results13 (loopsOK_none rfl _) 100000 fun args t h => ?_
  unfold impl_apart_c at h
  split at h
  · rename_i a0
    cases h
    exact ⟨rfl, agree_forms (mk := impl_apart_mk) (t := impl_apart_tree a0) (by unfold Agree; kernel_rfl) (fun h => h) (impl_apart_forms_get _)⟩
  · cases h

/-- internal/strconv.lower -/
def internal_strconv_lower_tree (a0 : Int) : DT (Int) :=
  let x0 := IntKind.wrap .u8 (BitVec.ofInt (IntKind.bits .u8) a0 ||| BitVec.ofInt (IntKind.bits .u8) 32).toNat;
  .leaf x0
def internal_strconv_lower (a0 : Int) : Int := (internal_strconv_lower_tree a0).val
def internal_strconv_lower_mk (p : Int) : Ret := ⟨.int .u8 p, []⟩
def internal_strconv_lower_c : Con := fun args => match args with
  | [.int .u8 a0] => some (.leaf (internal_strconv_lower_mk (internal_strconv_lower a0)))
  | _ => none
set_option maxRecDepth 100000 in
theorem internal_strconv_lower_ok : FunOK Tryd.prog 40 internal_strconv_lower_c.fn := by
  refine con_ok (Γ := gam []) (gam_nil) tab_ok (by kernel_rfl) Tryd.func40 (by kernel_rfl) (by kernel_rfl) Tryd.ntmps40 Tryd.results40 (loopsOK_none rfl _) 100000 fun args t h => ?_
  unfold internal_strconv_lower_c at h
  split at h
  · rename_i a0
    cases h
    exact ⟨rfl, agree_tot (mk := internal_strconv_lower_mk) (t := internal_strconv_lower_tree a0) (by unfold Agree; kernel_rfl) (by kernel_rfl)⟩
  · cases h

/-- a loop of internal_strconv_underscoreOK -/
def internal_strconv_underscoreOK_loop0_step (p : (List UInt8) × Bool) (s : Int × Int) : Round (Int × Int) ((Unit) ⊕ (Int)) :=
  let x0 := ((List.length p.1 : Nat) : Int);
  let x1 := decide (s.2 < x0);
  .ask x1
  (
   .need ((decide (0 ≤ s.2) && decide (s.2 < ((List.length p.1 : Nat) : Int)))) (
   let x2 := ((List.getD (p.1 : List UInt8) (Int.toNat s.2) 0).toNat : Int);
   let x3 := decide (48 ≤ x2);
   .ask x3
   (
    .need ((decide (0 ≤ s.2) && decide (s.2 < ((List.length p.1 : Nat) : Int)))) (
    let x4 := ((List.getD (p.1 : List UInt8) (Int.toNat s.2) 0).toNat : Int);
    let x5 := decide (x4 ≤ 57);
    .ask x5
    (
     let x6 := IntKind.wrap .i64 (s.2 + 1);
     .leaf (.inl (48, x6), []))
    (
     .ask p.2
     (
      .need ((decide (0 ≤ s.2) && decide (s.2 < ((List.length p.1 : Nat) : Int)))) (
      let x6 := ((List.getD (p.1 : List UInt8) (Int.toNat s.2) 0).toNat : Int);
      let x7 := internal_strconv_lower x6;
      let x8 := decide (97 ≤ x7);
      .ask x8
      (
       .need ((decide (0 ≤ s.2) && decide (s.2 < ((List.length p.1 : Nat) : Int)))) (
       let x9 := ((List.getD (p.1 : List UInt8) (Int.toNat s.2) 0).toNat : Int);
       let x10 := internal_strconv_lower x9;
       let x11 := decide (x10 ≤ 102);
       .ask x11
       (
        let x12 := IntKind.wrap .i64 (s.2 + 1);
        .leaf (.inl (48, x12), []))
       (
        .need ((decide (0 ≤ s.2) && decide (s.2 < ((List.length p.1 : Nat) : Int)))) (
        let x12 := ((List.getD (p.1 : List UInt8) (Int.toNat s.2) 0).toNat : Int);
        let x13 := (x12 == 95);
        .ask x13
        (
         let x14 := (s.1 != 48);
         .ask x14
         (
          .leaf (.inr (.inl ()), []))
         (
          let x15 := IntKind.wrap .i64 (s.2 + 1);
          .leaf (.inl (95, x15), [])))
        (
         let x14 := (s.1 == 95);
         .ask x14
         (
          .leaf (.inr (.inl ()), []))
         (
          let x15 := IntKind.wrap .i64 (s.2 + 1);
          .leaf (.inl (33, x15), [])))))))
      (
       .need ((decide (0 ≤ s.2) && decide (s.2 < ((List.length p.1 : Nat) : Int)))) (
       let x9 := ((List.getD (p.1 : List UInt8) (Int.toNat s.2) 0).toNat : Int);
       let x10 := (x9 == 95);
       .ask x10
       (
        let x11 := (s.1 != 48);
        .ask x11
        (
         .leaf (.inr (.inl ()), []))
        (
         let x12 := IntKind.wrap .i64 (s.2 + 1);
         .leaf (.inl (95, x12), [])))
       (
        let x11 := (s.1 == 95);
        .ask x11
        (
         .leaf (.inr (.inl ()), []))
        (
         let x12 := IntKind.wrap .i64 (s.2 + 1);
         .leaf (.inl (33, x12), [])))))))
     (
      .need ((decide (0 ≤ s.2) && decide (s.2 < ((List.length p.1 : Nat) : Int)))) (
      let x6 := ((List.getD (p.1 : List UInt8) (Int.toNat s.2) 0).toNat : Int);
      let x7 := (x6 == 95);
      .ask x7
      (
       let x8 := (s.1 != 48);
       .ask x8
       (
        .leaf (.inr (.inl ()), []))
       (
        let x9 := IntKind.wrap .i64 (s.2 + 1);
        .leaf (.inl (95, x9), [])))
      (
       let x8 := (s.1 == 95);
       .ask x8
       (
        .leaf (.inr (.inl ()), []))
       (
        let x9 := IntKind.wrap .i64 (s.2 + 1);
        .leaf (.inl (33, x9), []))))))))
   (
    .ask p.2
    (
     .need ((decide (0 ≤ s.2) && decide (s.2 < ((List.length p.1 : Nat) : Int)))) (
     let x4 := ((List.getD (p.1 : List UInt8) (Int.toNat s.2) 0).toNat : Int);
     let x5 := internal_strconv_lower x4;
     let x6 := decide (97 ≤ x5);
     .ask x6
     (
      .need ((decide (0 ≤ s.2) && decide (s.2 < ((List.length p.1 : Nat) : Int)))) (
      let x7 := ((List.getD (p.1 : List UInt8) (Int.toNat s.2) 0).toNat : Int);
      let x8 := internal_strconv_lower x7;
      let x9 := decide (x8 ≤ 102);
      .ask x9
      (
       let x10 := IntKind.wrap .i64 (s.2 + 1);
       .leaf (.inl (48, x10), []))
      (
       .need ((decide (0 ≤ s.2) && decide (s.2 < ((List.length p.1 : Nat) : Int)))) (
       let x10 := ((List.getD (p.1 : List UInt8) (Int.toNat s.2) 0).toNat : Int);
       let x11 := (x10 == 95);
       .ask x11
       (
        let x12 := (s.1 != 48);
        .ask x12
        (
         .leaf (.inr (.inl ()), []))
        (
         let x13 := IntKind.wrap .i64 (s.2 + 1);
         .leaf (.inl (95, x13), [])))
       (
        let x12 := (s.1 == 95);
        .ask x12
        (
         .leaf (.inr (.inl ()), []))
        (
         let x13 := IntKind.wrap .i64 (s.2 + 1);
         .leaf (.inl (33, x13), [])))))))
     (
      .need ((decide (0 ≤ s.2) && decide (s.2 < ((List.length p.1 : Nat) : Int)))) (
      let x7 := ((List.getD (p.1 : List UInt8) (Int.toNat s.2) 0).toNat : Int);
      let x8 := (x7 == 95);
      .ask x8
      (
       let x9 := (s.1 != 48);
       .ask x9
       (
        .leaf (.inr (.inl ()), []))
       (
        let x10 := IntKind.wrap .i64 (s.2 + 1);
        .leaf (.inl (95, x10), [])))
      (
       let x9 := (s.1 == 95);
       .ask x9
       (
        .leaf (.inr (.inl ()), []))
       (
        let x10 := IntKind.wrap .i64 (s.2 + 1);
        .leaf (.inl (33, x10), [])))))))
    (
     .need ((decide (0 ≤ s.2) && decide (s.2 < ((List.length p.1 : Nat) : Int)))) (
     let x4 := ((List.getD (p.1 : List UInt8) (Int.toNat s.2) 0).toNat : Int);
     let x5 := (x4 == 95);
     .ask x5
     (
      let x6 := (s.1 != 48);
      .ask x6
      (
       .leaf (.inr (.inl ()), []))
      (
       let x7 := IntKind.wrap .i64 (s.2 + 1);
       .leaf (.inl (95, x7), [])))
     (
      let x6 := (s.1 == 95);
      .ask x6
      (
       .leaf (.inr (.inl ()), []))
      (
       let x7 := IntKind.wrap .i64 (s.2 + 1);
       .leaf (.inl (33, x7), []))))))))
  (
   .leaf (.inr (.inr s.1), []))
def internal_strconv_underscoreOK_loop0_L (p : (List UInt8) × Bool) : LoopS (Int × Int) ((Unit) ⊕ (Int)) := { tl := fun s => [.str p.1, .junk, .junk, .int .i32 s.1, .int .i64 s.2, .bool p.2], hl := fun s => [], ex := fun r => match r with | .inl r => .ret | .inr r => .exit 0, otl := fun r => match r with | .inl r => [.junk, .junk, .bool false] | .inr r => [.junk, .junk, .junk, .int .i32 r], ohl := fun r => match r with | .inl r => [] | .inr r => [] }
def internal_strconv_underscoreOK_loop0_ext : St → Option (((List UInt8) × Bool) × (Int × Int) × List Nat) := fun S => match (S.tm 0).unK, (S.tm 3).unK, (S.tm 4).unK, (S.tm 5).unK with
  | .str q0, .int .i32 q1, .int .i64 q2, .bool q3 => some ((q0, q3), (q1, q2), [])
  | _, _, _, _ => none
def internal_strconv_underscoreOK_loop0_post (p : (List UInt8) × Bool) (r : (Unit) ⊕ (Int)) : DT (Ex × St) := .ask (isL r) (.leaf (.ret, LSt [.junk, .junk, .bool false] [])) (.leaf (.exit 0, LSt [.junk, .junk, .junk, .int .i32 ((rightD r))] []))
def internal_strconv_underscoreOK_loop0 (p : (List UInt8) × Bool) (s : Int × Int) : (Unit) ⊕ (Int) := loopVal (internal_strconv_underscoreOK_loop0_step p) s
def internal_strconv_underscoreOK_loop0_ends (p : (List UInt8) × Bool) (s : Int × Int) : Bool := loopEnds (internal_strconv_underscoreOK_loop0_step p) s
def internal_strconv_underscoreOK_loop0_F : LoopF := loopF internal_strconv_underscoreOK_loop0_step internal_strconv_underscoreOK_loop0_ext internal_strconv_underscoreOK_loop0_post
theorem internal_strconv_underscoreOK_loop0_hext : ∀ S p s fl, internal_strconv_underscoreOK_loop0_ext S = some (p, s, fl) → Norm S fl ((internal_strconv_underscoreOK_loop0_L p).tl s) ((internal_strconv_underscoreOK_loop0_L p).hl s) (internal_strconv_underscoreOK_loop0_L p).gl := by
  intro S p s fl h
  unfold internal_strconv_underscoreOK_loop0_ext at h
  (repeat' split at h) <;> first
    | (cases h; constructor <;> simp_all [internal_strconv_underscoreOK_loop0_L, keepT, keepH, rens, renH, PV.ren, Blk.ren, fOf, lget, nodup, natIn, lenEq, gtm, PV.unK])
    | cases h
theorem internal_strconv_underscoreOK_loop0_hpost : ∀ p r e S', (internal_strconv_underscoreOK_loop0_post p r).get = some (e, S') → e = (internal_strconv_underscoreOK_loop0_L p).ex r ∧ S' = LSt ((internal_strconv_underscoreOK_loop0_L p).otl r) ((internal_strconv_underscoreOK_loop0_L p).ohl r) ((internal_strconv_underscoreOK_loop0_L p).ogl r) := by
  intro p r e S' h
  unfold internal_strconv_underscoreOK_loop0_post at h
  cases r <;> (simp only [isL, DT.get, Option.some.injEq, Prod.mk.injEq] at h; exact ⟨h.1.symm, h.2.symm⟩)

def internal_strconv_underscoreOK_loops : Nat → Option LoopF := loopTab [(10, internal_strconv_underscoreOK_loop0_F)]
set_option maxRecDepth 100000 in
theorem internal_strconv_underscoreOK_l0 : LoopOK Tryd.prog ⟨gam [(40, internal_strconv_lower_c)], tab, 94, internal_strconv_underscoreOK_loops⟩ (lp Tryd.f41 0) :=
  loopOK_some (F := internal_strconv_underscoreOK_loop0_F) (by kernel_rfl) (loopF_ok (E := ⟨gam [(40, internal_strconv_lower_c)], tab, 94, internal_strconv_underscoreOK_loops⟩) ⟨gam_cons internal_strconv_lower_ok (gam_nil), tab_ok, by kernel_rfl⟩ (fuel := 100000) (loopsOK_list (l := []) (by kernel_rfl) trivial) (L := internal_strconv_underscoreOK_loop0_L) (fun p s => by unfold AgreeL; exact ⟨by kernel_rfl, by kernel_rfl⟩) (fun _ r h => by cases r <;> exact Ex.noConfusion h) internal_strconv_underscoreOK_loop0_hext internal_strconv_underscoreOK_loop0_hpost)
/-- internal/strconv.underscoreOK -/
def internal_strconv_underscoreOK_tree (a0 : (List UInt8)) : DT (Bool) :=
  let x0 := ((List.length a0 : Nat) : Int);
  let x1 := decide (x0 ≥ 1);
  .ask x1
  (
   .need ((decide (0 ≤ 0) && decide (0 < ((List.length a0 : Nat) : Int)))) (
   let x2 := ((List.getD (a0 : List UInt8) 0 0).toNat : Int);
   let x3 := (x2 == 45);
   .ask x3
   (
    .need ((decide (0 ≤ 1) && decide (1 ≤ (((List.length a0) : Nat) : Int)))) (
    let x4 := List.drop 1 (List.take (List.length a0) a0);
    let x5 := ((List.length x4 : Nat) : Int);
    let x6 := decide (x5 ≥ 2);
    .ask x6
    (
     .need ((decide (0 ≤ 0) && decide (0 < ((List.length x4 : Nat) : Int)))) (
     let x7 := ((List.getD (x4 : List UInt8) 0 0).toNat : Int);
     let x8 := (x7 == 48);
     .ask x8
     (
      .need ((decide (0 ≤ 1) && decide (1 < ((List.length x4 : Nat) : Int)))) (
      let x9 := ((List.getD (x4 : List UInt8) 1 0).toNat : Int);
      let x10 := internal_strconv_lower x9;
      let x11 := (x10 == 98);
      .ask x11
      (
       .need ((decide (0 ≤ 1) && decide (1 < ((List.length x4 : Nat) : Int)))) (
       let x12 := ((List.getD (x4 : List UInt8) 1 0).toNat : Int);
       let x13 := internal_strconv_lower x12;
       let x14 := (x13 == 120);
       .need ((internal_strconv_underscoreOK_loop0_ends (x4, x14) (48, 2))) (
       let x15 := internal_strconv_underscoreOK_loop0 (x4, x14) (48, 2);
       .ask ((isL x15))
       (
        .leaf false)
       (
        let x16 := ((rightD x15) != 95);
        .leaf x16))))
      (
       .need ((decide (0 ≤ 1) && decide (1 < ((List.length x4 : Nat) : Int)))) (
       let x12 := ((List.getD (x4 : List UInt8) 1 0).toNat : Int);
       let x13 := internal_strconv_lower x12;
       let x14 := (x13 == 111);
       .ask x14
       (
        .need ((decide (0 ≤ 1) && decide (1 < ((List.length x4 : Nat) : Int)))) (
        let x15 := ((List.getD (x4 : List UInt8) 1 0).toNat : Int);
        let x16 := internal_strconv_lower x15;
        let x17 := (x16 == 120);
        .need ((internal_strconv_underscoreOK_loop0_ends (x4, x17) (48, 2))) (
        let x18 := internal_strconv_underscoreOK_loop0 (x4, x17) (48, 2);
        .ask ((isL x18))
        (
         .leaf false)
        (
         let x19 := ((rightD x18) != 95);
         .leaf x19))))
       (
        .need ((decide (0 ≤ 1) && decide (1 < ((List.length x4 : Nat) : Int)))) (
        let x15 := ((List.getD (x4 : List UInt8) 1 0).toNat : Int);
        let x16 := internal_strconv_lower x15;
        let x17 := (x16 == 120);
        .ask x17
        (
         .need ((decide (0 ≤ 1) && decide (1 < ((List.length x4 : Nat) : Int)))) (
         let x18 := ((List.getD (x4 : List UInt8) 1 0).toNat : Int);
         let x19 := internal_strconv_lower x18;
         let x20 := (x19 == 120);
         .need ((internal_strconv_underscoreOK_loop0_ends (x4, x20) (48, 2))) (
         let x21 := internal_strconv_underscoreOK_loop0 (x4, x20) (48, 2);
         .ask ((isL x21))
         (
          .leaf false)
         (
          let x22 := ((rightD x21) != 95);
          .leaf x22))))
        (
         .need ((internal_strconv_underscoreOK_loop0_ends (x4, false) (94, 0))) (
         let x18 := internal_strconv_underscoreOK_loop0 (x4, false) (94, 0);
         .ask ((isL x18))
         (
          .leaf false)
         (
          let x19 := ((rightD x18) != 95);
          .leaf x19)))))))))
     (
      .need ((internal_strconv_underscoreOK_loop0_ends (x4, false) (94, 0))) (
      let x9 := internal_strconv_underscoreOK_loop0 (x4, false) (94, 0);
      .ask ((isL x9))
      (
       .leaf false)
      (
       let x10 := ((rightD x9) != 95);
       .leaf x10)))))
    (
     .need ((internal_strconv_underscoreOK_loop0_ends (x4, false) (94, 0))) (
     let x7 := internal_strconv_underscoreOK_loop0 (x4, false) (94, 0);
     .ask ((isL x7))
     (
      .leaf false)
     (
      let x8 := ((rightD x7) != 95);
      .leaf x8)))))
   (
    .need ((decide (0 ≤ 0) && decide (0 < ((List.length a0 : Nat) : Int)))) (
    let x4 := ((List.getD (a0 : List UInt8) 0 0).toNat : Int);
    let x5 := (x4 == 43);
    .ask x5
    (
     .need ((decide (0 ≤ 1) && decide (1 ≤ (((List.length a0) : Nat) : Int)))) (
     let x6 := List.drop 1 (List.take (List.length a0) a0);
     let x7 := ((List.length x6 : Nat) : Int);
     let x8 := decide (x7 ≥ 2);
     .ask x8
     (
      .need ((decide (0 ≤ 0) && decide (0 < ((List.length x6 : Nat) : Int)))) (
      let x9 := ((List.getD (x6 : List UInt8) 0 0).toNat : Int);
      let x10 := (x9 == 48);
      .ask x10
      (
       .need ((decide (0 ≤ 1) && decide (1 < ((List.length x6 : Nat) : Int)))) (
       let x11 := ((List.getD (x6 : List UInt8) 1 0).toNat : Int);
       let x12 := internal_strconv_lower x11;
       let x13 := (x12 == 98);
       .ask x13
       (
        .need ((decide (0 ≤ 1) && decide (1 < ((List.length x6 : Nat) : Int)))) (
        let x14 := ((List.getD (x6 : List UInt8) 1 0).toNat : Int);
        let x15 := internal_strconv_lower x14;
        let x16 := (x15 == 120);
        .need ((internal_strconv_underscoreOK_loop0_ends (x6, x16) (48, 2))) (
        let x17 := internal_strconv_underscoreOK_loop0 (x6, x16) (48, 2);
        .ask ((isL x17))
        (
         .leaf false)
        (
         let x18 := ((rightD x17) != 95);
         .leaf x18))))
       (
        .need ((decide (0 ≤ 1) && decide (1 < ((List.length x6 : Nat) : Int)))) (
        let x14 := ((List.getD (x6 : List UInt8) 1 0).toNat : Int);
        let x15 := internal_strconv_lower x14;
        let x16 := (x15 == 111);
        .ask x16
        (
         .need ((decide (0 ≤ 1) && decide (1 < ((List.length x6 : Nat) : Int)))) (
         let x17 := ((List.getD (x6 : List UInt8) 1 0).toNat : Int);
         let x18 := internal_strconv_lower x17;
         let x19 := (x18 == 120);
         .need ((internal_strconv_underscoreOK_loop0_ends (x6, x19) (48, 2))) (
         let x20 := internal_strconv_underscoreOK_loop0 (x6, x19) (48, 2);
         .ask ((isL x20))
         (
          .leaf false)
         (
          let x21 := ((rightD x20) != 95);
          .leaf x21))))
        (
         .need ((decide (0 ≤ 1) && decide (1 < ((List.length x6 : Nat) : Int)))) (
         let x17 := ((List.getD (x6 : List UInt8) 1 0).toNat : Int);
         let x18 := internal_strconv_lower x17;
         let x19 := (x18 == 120);
         .ask x19
         (
          .need ((decide (0 ≤ 1) && decide (1 < ((List.length x6 : Nat) : Int)))) (
          let x20 := ((List.getD (x6 : List UInt8) 1 0).toNat : Int);
          let x21 := internal_strconv_lower x20;
          let x22 := (x21 == 120);
          .need ((internal_strconv_underscoreOK_loop0_ends (x6, x22) (48, 2))) (
          let x23 := internal_strconv_underscoreOK_loop0 (x6, x22) (48, 2);
          .ask ((isL x23))
          (
           .leaf false)
          (
           let x24 := ((rightD x23) != 95);
           .leaf x24))))
         (
          .need ((internal_strconv_underscoreOK_loop0_ends (x6, false) (94, 0))) (
          let x20 := internal_strconv_underscoreOK_loop0 (x6, false) (94, 0);
          .ask ((isL x20))
          (
           .leaf false)
          (
           let x21 := ((rightD x20) != 95);
           .leaf x21)))))))))
      (
       .need ((internal_strconv_underscoreOK_loop0_ends (x6, false) (94, 0))) (
       let x11 := internal_strconv_underscoreOK_loop0 (x6, false) (94, 0);
       .ask ((isL x11))
       (
        .leaf false)
       (
        let x12 := ((rightD x11) != 95);
        .leaf x12)))))
     (
      .need ((internal_strconv_underscoreOK_loop0_ends (x6, false) (94, 0))) (
      let x9 := internal_strconv_underscoreOK_loop0 (x6, false) (94, 0);
      .ask ((isL x9))
      (
       .leaf false)
      (
       let x10 := ((rightD x9) != 95);
       .leaf x10)))))
    (
     let x6 := ((List.length a0 : Nat) : Int);
     let x7 := decide (x6 ≥ 2);
     .ask x7
     (
      .need ((decide (0 ≤ 0) && decide (0 < ((List.length a0 : Nat) : Int)))) (
      let x8 := ((List.getD (a0 : List UInt8) 0 0).toNat : Int);
      let x9 := (x8 == 48);
      .ask x9
      (
       .need ((decide (0 ≤ 1) && decide (1 < ((List.length a0 : Nat) : Int)))) (
       let x10 := ((List.getD (a0 : List UInt8) 1 0).toNat : Int);
       let x11 := internal_strconv_lower x10;
       let x12 := (x11 == 98);
       .ask x12
       (
        .need ((decide (0 ≤ 1) && decide (1 < ((List.length a0 : Nat) : Int)))) (
        let x13 := ((List.getD (a0 : List UInt8) 1 0).toNat : Int);
        let x14 := internal_strconv_lower x13;
        let x15 := (x14 == 120);
        .need ((internal_strconv_underscoreOK_loop0_ends (a0, x15) (48, 2))) (
        let x16 := internal_strconv_underscoreOK_loop0 (a0, x15) (48, 2);
        .ask ((isL x16))
        (
         .leaf false)
        (
         let x17 := ((rightD x16) != 95);
         .leaf x17))))
       (
        .need ((decide (0 ≤ 1) && decide (1 < ((List.length a0 : Nat) : Int)))) (
        let x13 := ((List.getD (a0 : List UInt8) 1 0).toNat : Int);
        let x14 := internal_strconv_lower x13;
        let x15 := (x14 == 111);
        .ask x15
        (
         .need ((decide (0 ≤ 1) && decide (1 < ((List.length a0 : Nat) : Int)))) (
         let x16 := ((List.getD (a0 : List UInt8) 1 0).toNat : Int);
         let x17 := internal_strconv_lower x16;
         let x18 := (x17 == 120);
         .need ((internal_strconv_underscoreOK_loop0_ends (a0, x18) (48, 2))) (
         let x19 := internal_strconv_underscoreOK_loop0 (a0, x18) (48, 2);
         .ask ((isL x19))
         (
          .leaf false)
         (
          let x20 := ((rightD x19) != 95);
          .leaf x20))))
        (
         .need ((decide (0 ≤ 1) && decide (1 < ((List.length a0 : Nat) : Int)))) (
         let x16 := ((List.getD (a0 : List UInt8) 1 0).toNat : Int);
         let x17 := internal_strconv_lower x16;
         let x18 := (x17 == 120);
         .ask x18
         (
          .need ((decide (0 ≤ 1) && decide (1 < ((List.length a0 : Nat) : Int)))) (
          let x19 := ((List.getD (a0 : List UInt8) 1 0).toNat : Int);
          let x20 := internal_strconv_lower x19;
          let x21 := (x20 == 120);
          .need ((internal_strconv_underscoreOK_loop0_ends (a0, x21) (48, 2))) (
          let x22 := internal_strconv_underscoreOK_loop0 (a0, x21) (48, 2);
          .ask ((isL x22))
          (
           .leaf false)
          (
           let x23 := ((rightD x22) != 95);
           .leaf x23))))
         (
          .need ((internal_strconv_underscoreOK_loop0_ends (a0, false) (94, 0))) (
          let x19 := internal_strconv_underscoreOK_loop0 (a0, false) (94, 0);
          .ask ((isL x19))
          (
           .leaf false)
          (
           let x20 := ((rightD x19) != 95);
           .leaf x20)))))))))
      (
       .need ((internal_strconv_underscoreOK_loop0_ends (a0, false) (94, 0))) (
       let x10 := internal_strconv_underscoreOK_loop0 (a0, false) (94, 0);
       .ask ((isL x10))
       (
        .leaf false)
       (
        let x11 := ((rightD x10) != 95);
        .leaf x11)))))
     (
      .need ((internal_strconv_underscoreOK_loop0_ends (a0, false) (94, 0))) (
      let x8 := internal_strconv_underscoreOK_loop0 (a0, false) (94, 0);
      .ask ((isL x8))
      (
       .leaf false)
      (
       let x9 := ((rightD x8) != 95);
       .leaf x9))))))))
  (
   let x2 := ((List.length a0 : Nat) : Int);
   let x3 := decide (x2 ≥ 2);
   .ask x3
   (
    .need ((decide (0 ≤ 0) && decide (0 < ((List.length a0 : Nat) : Int)))) (
    let x4 := ((List.getD (a0 : List UInt8) 0 0).toNat : Int);
    let x5 := (x4 == 48);
    .ask x5
    (
     .need ((decide (0 ≤ 1) && decide (1 < ((List.length a0 : Nat) : Int)))) (
     let x6 := ((List.getD (a0 : List UInt8) 1 0).toNat : Int);
     let x7 := internal_strconv_lower x6;
     let x8 := (x7 == 98);
     .ask x8
     (
      .need ((decide (0 ≤ 1) && decide (1 < ((List.length a0 : Nat) : Int)))) (
      let x9 := ((List.getD (a0 : List UInt8) 1 0).toNat : Int);
      let x10 := internal_strconv_lower x9;
      let x11 := (x10 == 120);
      .need ((internal_strconv_underscoreOK_loop0_ends (a0, x11) (48, 2))) (
      let x12 := internal_strconv_underscoreOK_loop0 (a0, x11) (48, 2);
      .ask ((isL x12))
      (
       .leaf false)
      (
       let x13 := ((rightD x12) != 95);
       .leaf x13))))
     (
      .need ((decide (0 ≤ 1) && decide (1 < ((List.length a0 : Nat) : Int)))) (
      let x9 := ((List.getD (a0 : List UInt8) 1 0).toNat : Int);
      let x10 := internal_strconv_lower x9;
      let x11 := (x10 == 111);
      .ask x11
      (
       .need ((decide (0 ≤ 1) && decide (1 < ((List.length a0 : Nat) : Int)))) (
       let x12 := ((List.getD (a0 : List UInt8) 1 0).toNat : Int);
       let x13 := internal_strconv_lower x12;
       let x14 := (x13 == 120);
       .need ((internal_strconv_underscoreOK_loop0_ends (a0, x14) (48, 2))) (
       let x15 := internal_strconv_underscoreOK_loop0 (a0, x14) (48, 2);
       .ask ((isL x15))
       (
        .leaf false)
       (
        let x16 := ((rightD x15) != 95);
        .leaf x16))))
      (
       .need ((decide (0 ≤ 1) && decide (1 < ((List.length a0 : Nat) : Int)))) (
       let x12 := ((List.getD (a0 : List UInt8) 1 0).toNat : Int);
       let x13 := internal_strconv_lower x12;
       let x14 := (x13 == 120);
       .ask x14
       (
        .need ((decide (0 ≤ 1) && decide (1 < ((List.length a0 : Nat) : Int)))) (
        let x15 := ((List.getD (a0 : List UInt8) 1 0).toNat : Int);
        let x16 := internal_strconv_lower x15;
        let x17 := (x16 == 120);
        .need ((internal_strconv_underscoreOK_loop0_ends (a0, x17) (48, 2))) (
        let x18 := internal_strconv_underscoreOK_loop0 (a0, x17) (48, 2);
        .ask ((isL x18))
        (
         .leaf false)
        (
         let x19 := ((rightD x18) != 95);
         .leaf x19))))
       (
        .need ((internal_strconv_underscoreOK_loop0_ends (a0, false) (94, 0))) (
        let x15 := internal_strconv_underscoreOK_loop0 (a0, false) (94, 0);
        .ask ((isL x15))
        (
         .leaf false)
        (
         let x16 := ((rightD x15) != 95);
         .leaf x16)))))))))
    (
     .need ((internal_strconv_underscoreOK_loop0_ends (a0, false) (94, 0))) (
     let x6 := internal_strconv_underscoreOK_loop0 (a0, false) (94, 0);
     .ask ((isL x6))
     (
      .leaf false)
     (
      let x7 := ((rightD x6) != 95);
      .leaf x7)))))
   (
    .need ((internal_strconv_underscoreOK_loop0_ends (a0, false) (94, 0))) (
    let x4 := internal_strconv_underscoreOK_loop0 (a0, false) (94, 0);
    .ask ((isL x4))
    (
     .leaf false)
    (
     let x5 := ((rightD x4) != 95);
     .leaf x5))))
def internal_strconv_underscoreOK (a0 : (List UInt8)) : Bool := (internal_strconv_underscoreOK_tree a0).val
def internal_strconv_underscoreOK_need (a0 : (List UInt8)) : Bool := (internal_strconv_underscoreOK_tree a0).ok
def internal_strconv_underscoreOK_mk (p : Bool) : Ret := ⟨.bool p, []⟩
def internal_strconv_underscoreOK_c : Con := fun args => match args with
  | [.str a0] => some (.need (internal_strconv_underscoreOK_need a0) (.leaf (internal_strconv_underscoreOK_mk (internal_strconv_underscoreOK a0))))
  | _ => none
set_option maxRecDepth 100000 in
theorem internal_strconv_underscoreOK_ok : FunOK Tryd.prog 41 internal_strconv_underscoreOK_c.fn := by
  refine con_ok (Γ := gam [(40, internal_strconv_lower_c)]) (gam_cons internal_strconv_lower_ok (gam_nil)) tab_ok (by kernel_rfl) Tryd.func41 (by kernel_rfl) (by kernel_rfl) Tryd.ntmps41 Tryd.results41 (loops := internal_strconv_underscoreOK_loops) (loopsOK_list (l := [lp Tryd.f41 0]) (by kernel_rfl) ⟨internal_strconv_underscoreOK_l0, trivial⟩) 100000 fun args t h => ?_
  unfold internal_strconv_underscoreOK_c at h
  split at h
  · rename_i a0
    cases h
    exact ⟨rfl, agree_need (mk := internal_strconv_underscoreOK_mk) (t := internal_strconv_underscoreOK_tree a0) (by unfold Agree; kernel_rfl)⟩
  · cases h

-- FAILED 29 internal/strconv.ParseUint: operation

-- FAILED 58 internal/stringslite.Clone: builtin

-- FAILED 42 strconv.syntaxError: no contract: internal/stringslite.Clone 

-- FAILED 43 strconv.rangeError: no contract: internal/stringslite.Clone 

-- FAILED 77 internal/strconv.Itoa: no contract: internal/strconv.FormatInt 

-- FAILED 60 strconv.Itoa: no contract: internal/strconv.Itoa 

-- FAILED 59 errors.New: operation

-- FAILED 44 strconv.baseError: no contract: internal/stringslite.Clone 

-- FAILED 45 strconv.bitSizeError: no contract: internal/stringslite.Clone 

-- FAILED 30 strconv.toError: param type 50

-- FAILED 21 strconv.ParseUint: no contract: internal/strconv.ParseUint 

/-- a loop of impl_ReadComplex -/
def impl_ReadComplex_loop0_step (p : Bool × Int × List (List UInt8)) (s : Int × List (Nat × Nat)) : Round (Int × List (Nat × Nat)) ((Unit) ⊕ (List (Nat × Nat))) :=
  let x0 := decide (s.1 < p.2.1);
  .ask x0
  (
   .need ((decide (0 ≤ s.1) && decide (s.1 < ((List.length p.2.2 : Nat) : Int)))) (
   .need ((decide ((Int.toNat s.1) < List.length p.2.2))) (
   let x1 := List.getD p.2.2 (Int.toNat s.1) default;
   .ask (!p.1)
   (
    .leaf (.inr (.inl ()), []))
   (
    let x2 := ((List.length x1 : Nat) : Int);
    let x3 := (x2 != 16);
    .ask x3
    (
     .leaf (.inr (.inl ()), []))
    (
     .need ((decide (0 ≤ 8) && decide (8 ≤ ((List.length x1 : Nat) : Int)))) (
     let x4 := List.drop 0 (List.take 8 x1);
     .need ((decide (List.length x4 ≤ 281474976710656) && impl_digits_need (canon .f32 (valP (parseS x4))))) (
     let x5 := readD x4;
     .need ((decide (0 ≤ 8) && decide (8 ≤ (((List.length x1) : Nat) : Int)))) (
     let x6 := List.drop 8 (List.take (List.length x1) x1);
     .need ((decide (List.length x6 ≤ 281474976710656) && impl_digits_need (canon .f32 (valP (parseS x6))))) (
     let x7 := readD x6;
     .ask (!x5.2)
     (
      .leaf (.inr (.inl ()), []))
     (
      .ask (!x7.2)
      (
       .leaf (.inr (.inl ()), []))
      (
       .need ((decide ((List.length s.2 + List.length [(x5.1, x7.1)]) * 8 ≤ 140737488355328) && decide (List.length s.2 + List.length [(x5.1, x7.1)] ≤ 9223372036854775807))) (
       let x8 := s.2 ++ [(x5.1, x7.1)];
       let x9 := IntKind.wrap .i64 (s.1 + 1);
       .leaf (.inl (x9, x8), [306, 1])))))))))))))
  (
   .leaf (.inr (.inr s.2), [0]))
def impl_ReadComplex_loop0_L (p : Bool × Int × List (List UInt8)) : LoopS (Int × List (Nat × Nat)) ((Unit) ⊕ (List (Nat × Nat))) := { tl := fun s => [.junk, .junk, .junk, .junk, .junk, .bool p.1, .own 0, .junk, .junk, .junk, .junk, .junk, .junk, .junk, .junk, .junk, .junk, .junk, .junk, .own 1, .int .i64 p.2.1, .int .i64 s.1], hl := fun s => [some (.typed 22 (.cplx .f32) s.2), some (.typed 9 .str p.2.2)], ex := fun r => match r with | .inl r => .ret | .inr r => .exit 0, otl := fun r => match r with | .inl r => [.junk, .junk, .nils, .bool false] | .inr r => [.junk, .junk, .junk, .junk, .junk, .bool p.1, .own 0], ohl := fun r => match r with | .inl r => [] | .inr r => [some (.typed 22 (.cplx .f32) r)] }
def impl_ReadComplex_loop0_ext : St → Option ((Bool × Int × List (List UInt8)) × (Int × List (Nat × Nat)) × List Nat) := fun S => match (S.tm 5).unK, (S.tm 6).unK, (S.tm 19).unK, (S.tm 20).unK, (S.tm 21).unK with
  | .bool q0, .own i0, .own i1, .int .i64 q1, .int .i64 q2 => (match S.hp i0 with
    | some (.typed 22 (.cplx .f32) q3) => (match S.hp i1 with
    | some (.typed 9 .str q4) => (if nodup [i0, i1] = true then some ((q0, q1, q4), (q2, q3), [i0, i1]) else none)
    | _ => none)
    | _ => none)
  | _, _, _, _, _ => none
def impl_ReadComplex_loop0_post (p : Bool × Int × List (List UInt8)) (r : (Unit) ⊕ (List (Nat × Nat))) : DT (Ex × St) := .ask (isL r) (.leaf (.ret, LSt [.junk, .junk, .nils, .bool false] [])) (.leaf (.exit 0, LSt [.junk, .junk, .junk, .junk, .junk, .bool p.1, .own 0] [some (.typed 22 (.cplx .f32) ((rightD r)))]))
def impl_ReadComplex_loop0 (p : Bool × Int × List (List UInt8)) (s : Int × List (Nat × Nat)) : (Unit) ⊕ (List (Nat × Nat)) := loopVal (impl_ReadComplex_loop0_step p) s
def impl_ReadComplex_loop0_ends (p : Bool × Int × List (List UInt8)) (s : Int × List (Nat × Nat)) : Bool := loopEnds (impl_ReadComplex_loop0_step p) s
def impl_ReadComplex_loop0_F : LoopF := loopF impl_ReadComplex_loop0_step impl_ReadComplex_loop0_ext impl_ReadComplex_loop0_post
theorem impl_ReadComplex_loop0_hext : ∀ S p s fl, impl_ReadComplex_loop0_ext S = some (p, s, fl) → Norm S fl ((impl_ReadComplex_loop0_L p).tl s) ((impl_ReadComplex_loop0_L p).hl s) (impl_ReadComplex_loop0_L p).gl := by
  intro S p s fl h
  unfold impl_ReadComplex_loop0_ext at h
  (repeat' split at h) <;> first
    | (cases h; constructor <;> simp_all [impl_ReadComplex_loop0_L, keepT, keepH, rens, renH, PV.ren, Blk.ren, fOf, lget, nodup, natIn, lenEq, gtm, PV.unK])
    | cases h
theorem impl_ReadComplex_loop0_hpost : ∀ p r e S', (impl_ReadComplex_loop0_post p r).get = some (e, S') → e = (impl_ReadComplex_loop0_L p).ex r ∧ S' = LSt ((impl_ReadComplex_loop0_L p).otl r) ((impl_ReadComplex_loop0_L p).ohl r) ((impl_ReadComplex_loop0_L p).ogl r) := by
  intro p r e S' h
  unfold impl_ReadComplex_loop0_post at h
  cases r <;> (simp only [isL, DT.get, Option.some.injEq, Prod.mk.injEq] at h; exact ⟨h.1.symm, h.2.symm⟩)

def impl_ReadComplex_loops : Nat → Option LoopF := loopTab [(4, impl_ReadComplex_loop0_F)]
set_option maxRecDepth 100000 in
theorem impl_ReadComplex_l0 : LoopOK Tryd.prog ⟨gam [(13, impl_apart_c), (14, impl_readDigits_c)], tab, 60, impl_ReadComplex_loops⟩ (lp Tryd.f8 0) :=
  loopOK_some (F := impl_ReadComplex_loop0_F) (by kernel_rfl) (loopF_ok (E := ⟨gam [(13, impl_apart_c), (14, impl_readDigits_c)], tab, 60, impl_ReadComplex_loops⟩) ⟨gam_cons impl_apart_ok (gam_cons impl_readDigits_ok (gam_nil)), tab_ok, by kernel_rfl⟩ (fuel := 100000) (loopsOK_list (l := []) (by kernel_rfl) trivial) (L := impl_ReadComplex_loop0_L) (fun p s => by unfold AgreeL; exact ⟨by kernel_rfl, by kernel_rfl⟩) (fun _ r h => by cases r <;> exact Ex.noConfusion h) impl_ReadComplex_loop0_hext impl_ReadComplex_loop0_hpost)
/-- loop.example/g01284/impl.ReadComplex -/
def impl_ReadComplex_tree (a0 : (List UInt8)) : DT ((List (Nat × Nat)) ⊕ (Unit)) :=
  .need ((impl_apart_need a0)) (
  let x0 := impl_apart a0;
  .ask ((isL x0))
  (
   .skip (
   .skip (
   .leaf (.inl []))))
  (
   let x1 := ((List.length (rightD x0).1 : Nat) : Int);
   .need ((impl_ReadComplex_loop0_ends ((rightD x0).2, x1, (rightD x0).1) (0, []))) (
   let x2 := impl_ReadComplex_loop0 ((rightD x0).2, x1, (rightD x0).1) (0, []);
   .ask ((isL x2))
   (
    .leaf (.inr ()))
   (
    let x3 := (!(rightD x0).2);
    .ask x3
    (
     .leaf (.inr ()))
    (
     .leaf (.inl ((rightD x2))))))))
def impl_ReadComplex (a0 : (List UInt8)) : (List (Nat × Nat)) ⊕ (Unit) := (impl_ReadComplex_tree a0).val
def impl_ReadComplex_need (a0 : (List UInt8)) : Bool := (impl_ReadComplex_tree a0).ok
def impl_ReadComplex_mk0 (p : List (Nat × Nat)) : Ret := ⟨.tup [.own 0, .bool true], [.typed 22 (.cplx .f32) p]⟩
def impl_ReadComplex_mk1 (p : Unit) : Ret := ⟨.tup [.nils, .bool false], []⟩
def impl_ReadComplex_mk : (List (Nat × Nat)) ⊕ (Unit) → Ret := fun v => match v with
  | (.inl p) => impl_ReadComplex_mk0 p
  | (.inr p) => impl_ReadComplex_mk1 p
def impl_ReadComplex_forms (v : (List (Nat × Nat)) ⊕ (Unit)) : DT Ret := .ask (isL v) (.leaf (impl_ReadComplex_mk0 (leftD v))) (.leaf (impl_ReadComplex_mk1 (rightD v)))
theorem impl_ReadComplex_forms_get : ∀ v, (impl_ReadComplex_forms v).get = some (impl_ReadComplex_mk v) := by
  intro v
  rcases v with v | v <;> rfl
def impl_ReadComplex_c : Con := fun args => match args with
  | [.str a0] => some (.need (impl_ReadComplex_need a0) (impl_ReadComplex_forms (impl_ReadComplex a0)))
  | _ => none
set_option maxRecDepth 100000 in
theorem impl_ReadComplex_ok : FunOK Tryd.prog 8 impl_ReadComplex_c.fn := by
  refine con_ok (Γ := gam [(13, impl_apart_c), (14, impl_readDigits_c)]) (gam_cons impl_apart_ok (gam_cons impl_readDigits_ok (gam_nil))) tab_ok (by kernel_rfl) Tryd.func8 (by kernel_rfl) (by kernel_rfl) Tryd.ntmps8 Tryd.results8 (loops := impl_ReadComplex_loops) (loopsOK_list (l := [lp Tryd.f8 0]) (by kernel_rfl) ⟨impl_ReadComplex_l0, trivial⟩) 100000 fun args t h => ?_
  unfold impl_ReadComplex_c at h
  split at h
  · rename_i a0
    cases h
    exact ⟨rfl, agree_forms (mk := impl_ReadComplex_mk) (t := impl_ReadComplex_tree a0) (by unfold Agree; kernel_rfl) (fun h => h) (impl_ReadComplex_forms_get _)⟩
  · cases h

/-- math.IsNaN -/
def math_IsNaN_tree (a0 : Nat) : DT (Bool) :=
  let x0 := fne .f64 a0 a0;
  .leaf x0
def math_IsNaN (a0 : Nat) : Bool := (math_IsNaN_tree a0).val
def math_IsNaN_mk (p : Bool) : Ret := ⟨.bool p, []⟩
def math_IsNaN_c : Con := fun args => match args with
  | [.flt .f64 a0] => some (.leaf (math_IsNaN_mk (math_IsNaN a0)))
  | _ => none
set_option maxRecDepth 100000 in
theorem math_IsNaN_ok : FunOK Tryd.prog 70 math_IsNaN_c.fn := by
  refine con_ok (Γ := gam []) (gam_nil) tab_ok (by kernel_rfl) Tryd.func70 (by kernel_rfl) (by kernel_rfl) Tryd.ntmps70 Tryd.results70 (loopsOK_none rfl _) 100000 fun args t h => ?_
  unfold math_IsNaN_c at h
  split at h
  · rename_i a0
    cases h
    exact ⟨rfl, agree_tot (mk := math_IsNaN_mk) (t := math_IsNaN_tree a0) (by unfold Agree; kernel_rfl) (by kernel_rfl)⟩
  · cases h

/-- math.Abs -/
def math_Abs_tree (a0 : Nat) : DT (Nat) :=
  .ask ((isNaN .f64 a0))
  (
   .leaf 9221120237041090560)
  (
   let x0 := IntKind.wrap .u64 (BitVec.ofInt (IntKind.bits .u64) ((a0 : Nat) : Int) &&& ~~~ BitVec.ofInt (IntKind.bits .u64) 9223372036854775808).toNat;
   let x1 := canon .f64 (Int.toNat x0);
   .leaf x1)
def math_Abs (a0 : Nat) : Nat := (math_Abs_tree a0).val
def math_Abs_mk (p : Nat) : Ret := ⟨.flt .f64 p, []⟩
def math_Abs_c : Con := fun args => match args with
  | [.flt .f64 a0] => some (.leaf (math_Abs_mk (math_Abs a0)))
  | _ => none
set_option maxRecDepth 100000 in
theorem math_Abs_ok : FunOK Tryd.prog 85 math_Abs_c.fn := by
  refine con_ok (Γ := gam [(91, math_Float64bits_c), (90, math_Float64frombits_c)]) (gam_cons math_Float64bits_ok (gam_cons math_Float64frombits_ok (gam_nil))) tab_ok (by kernel_rfl) Tryd.func85 (by kernel_rfl) (by kernel_rfl) Tryd.ntmps85 Tryd.results85 (loopsOK_none rfl _) 100000 fun args t h => ?_
  unfold math_Abs_c at h
  split at h
  · rename_i a0
    cases h
    exact ⟨rfl, agree_tot (mk := math_Abs_mk) (t := math_Abs_tree a0) (by unfold Agree; kernel_rfl) (by kernel_rfl)⟩
  · cases h

/-- math.IsInf -/
def math_IsInf_tree (a0 : Nat) (a1 : Int) : DT (Bool) :=
  let x0 := (a1 == 0);
  .ask x0
  (
   let x1 := math_Abs a0;
   let x2 := fgt .f64 x1 9218868437227405311;
   .leaf x2)
  (
   let x1 := decide (a1 < 0);
   .ask x1
   (
    let x2 := fneg .f64 a0;
    let x3 := fgt .f64 x2 9218868437227405311;
    .leaf x3)
   (
    let x2 := fgt .f64 a0 9218868437227405311;
    .leaf x2))
def math_IsInf (a0 : Nat) (a1 : Int) : Bool := (math_IsInf_tree a0 a1).val
def math_IsInf_mk (p : Bool) : Ret := ⟨.bool p, []⟩
def math_IsInf_c : Con := fun args => match args with
  | [.flt .f64 a0, .int .i64 a1] => some (.leaf (math_IsInf_mk (math_IsInf a0 a1)))
  | _ => none
set_option maxRecDepth 100000 in
theorem math_IsInf_ok : FunOK Tryd.prog 71 math_IsInf_c.fn := by
  refine con_ok (Γ := gam [(85, math_Abs_c)]) (gam_cons math_Abs_ok (gam_nil)) tab_ok (by kernel_rfl) Tryd.func71 (by kernel_rfl) (by kernel_rfl) Tryd.ntmps71 Tryd.results71 (loopsOK_none rfl _) 100000 fun args t h => ?_
  unfold math_IsInf_c at h
  split at h
  · rename_i a0 a1
    cases h
    exact ⟨rfl, agree_tot (mk := math_IsInf_mk) (t := math_IsInf_tree a0 a1) (by unfold Agree; kernel_rfl) (by kernel_rfl)⟩
  · cases h

/-- loop.example/g01284/impl.finite -/
def impl_finite_tree (a0 : Nat) : DT (Bool) :=
  let x0 := math_IsNaN a0;
  .ask (!x0)
  (
   let x1 := math_IsInf a0 0;
   .leaf (!x1))
  (
   .leaf false)
def impl_finite (a0 : Nat) : Bool := (impl_finite_tree a0).val
def impl_finite_mk (p : Bool) : Ret := ⟨.bool p, []⟩
def impl_finite_c : Con := fun args => match args with
  | [.flt .f64 a0] => some (.leaf (impl_finite_mk (impl_finite a0)))
  | _ => none
set_option maxRecDepth 100000 in
theorem impl_finite_ok : FunOK Tryd.prog 53 impl_finite_c.fn := by
  refine con_ok (Γ := gam [(70, math_IsNaN_c), (71, math_IsInf_c)]) (gam_cons math_IsNaN_ok (gam_cons math_IsInf_ok (gam_nil))) tab_ok (by kernel_rfl) Tryd.func53 (by kernel_rfl) (by kernel_rfl) Tryd.ntmps53 Tryd.results53 (loopsOK_none rfl _) 100000 fun args t h => ?_
  unfold impl_finite_c at h
  split at h
  · rename_i a0
    cases h
    exact ⟨rfl, agree_tot (mk := impl_finite_mk) (t := impl_finite_tree a0) (by unfold Agree; kernel_rfl) (by kernel_rfl)⟩
  · cases h

/-- loop.example/g01284/impl.IsFinite -/
def impl_IsFinite_tree (a0 : Nat) : DT (Bool) :=
  .need ((fconvOk .f32 a0 .f64)) (
  let x0 := fconv .f32 a0 .f64;
  let x1 := impl_finite x0;
  .leaf x1)
def impl_IsFinite (a0 : Nat) : Bool := (impl_IsFinite_tree a0).val
def impl_IsFinite_need (a0 : Nat) : Bool := (impl_IsFinite_tree a0).ok
def impl_IsFinite_mk (p : Bool) : Ret := ⟨.bool p, []⟩
def impl_IsFinite_c : Con := fun args => match args with
  | [.flt .f32 a0] => some (.need (impl_IsFinite_need a0) (.leaf (impl_IsFinite_mk (impl_IsFinite a0))))
  | _ => none
set_option maxRecDepth 100000 in
theorem impl_IsFinite_ok : FunOK Tryd.prog 34 impl_IsFinite_c.fn := by
  refine con_ok (Γ := gam [(53, impl_finite_c)]) (gam_cons impl_finite_ok (gam_nil)) tab_ok (by kernel_rfl) Tryd.func34 (by kernel_rfl) (by kernel_rfl) Tryd.ntmps34 Tryd.results34 (loopsOK_none rfl _) 100000 fun args t h => ?_
  unfold impl_IsFinite_c at h
  split at h
  · rename_i a0
    cases h
    exact ⟨rfl, agree_need (mk := impl_IsFinite_mk) (t := impl_IsFinite_tree a0) (by unfold Agree; kernel_rfl)⟩
  · cases h

/-- loop.example/g01284/impl.IsFiniteComplex -/
def impl_IsFiniteComplex_tree (a0 : (Nat × Nat)) : DT (Bool) :=
  .need ((impl_IsFinite_need a0.1)) (
  let x0 := impl_IsFinite a0.1;
  .ask x0
  (
   .need ((impl_IsFinite_need a0.2)) (
   let x1 := impl_IsFinite a0.2;
   .leaf x1))
  (
   .leaf false))
def impl_IsFiniteComplex (a0 : (Nat × Nat)) : Bool := (impl_IsFiniteComplex_tree a0).val
def impl_IsFiniteComplex_need (a0 : (Nat × Nat)) : Bool := (impl_IsFiniteComplex_tree a0).ok
def impl_IsFiniteComplex_mk (p : Bool) : Ret := ⟨.bool p, []⟩
def impl_IsFiniteComplex_c : Con := fun args => match args with
  | [.cplx .f32 a0r a0i] => some (.need (impl_IsFiniteComplex_need (a0r, a0i)) (.leaf (impl_IsFiniteComplex_mk (impl_IsFiniteComplex (a0r, a0i)))))
  | _ => none
set_option maxRecDepth 100000 in
theorem impl_IsFiniteComplex_ok : FunOK Tryd.prog 24 impl_IsFiniteComplex_c.fn := by
  refine con_ok (Γ := gam [(34, impl_IsFinite_c)]) (gam_cons impl_IsFinite_ok (gam_nil)) tab_ok (by kernel_rfl) Tryd.func24 (by kernel_rfl) (by kernel_rfl) Tryd.ntmps24 Tryd.results24 (loopsOK_none rfl _) 100000 fun args t h => ?_
  unfold impl_IsFiniteComplex_c at h
  split at h
  · rename_i a0r a0i
    cases h
    exact ⟨rfl, agree_need (mk := impl_IsFiniteComplex_mk) (t := impl_IsFiniteComplex_tree (a0r, a0i)) (by unfold Agree; kernel_rfl)⟩
  · cases h

/-- loop.example/g01284/impl.ValidShip -/
def impl_ValidShip_tree (a0 : ((Nat × Nat) × (Nat × Nat))) : DT (Bool) :=
  .need ((impl_IsFiniteComplex_need ((a0.1.1, a0.1.2)))) (
  let x0 := impl_IsFiniteComplex ((a0.1.1, a0.1.2));
  .ask x0
  (
   .need ((impl_IsFiniteComplex_need ((a0.2.1, a0.2.2)))) (
   let x1 := impl_IsFiniteComplex ((a0.2.1, a0.2.2));
   .leaf x1))
  (
   .leaf false))
def impl_ValidShip (a0 : ((Nat × Nat) × (Nat × Nat))) : Bool := (impl_ValidShip_tree a0).val
def impl_ValidShip_need (a0 : ((Nat × Nat) × (Nat × Nat))) : Bool := (impl_ValidShip_tree a0).ok
def impl_ValidShip_mk (p : Bool) : Ret := ⟨.bool p, []⟩
def impl_ValidShip_c : Con := fun args => match args with
  | [.agg [.cplx .f32 a0_0r a0_0i, .cplx .f32 a0_1r a0_1i]] => some (.need (impl_ValidShip_need ((a0_0r, a0_0i), (a0_1r, a0_1i))) (.leaf (impl_ValidShip_mk (impl_ValidShip ((a0_0r, a0_0i), (a0_1r, a0_1i))))))
  | _ => none
set_option maxRecDepth 100000 in
theorem impl_ValidShip_ok : FunOK Tryd.prog 15 impl_ValidShip_c.fn := by
  refine con_ok (Γ := gam [(24, impl_IsFiniteComplex_c)]) (gam_cons impl_IsFiniteComplex_ok (gam_nil)) tab_ok (by kernel_rfl) Tryd.func15 (by kernel_rfl) (by kernel_rfl) Tryd.ntmps15 Tryd.results15 (loopsOK_none rfl _) 100000 fun args t h => ?_
  unfold impl_ValidShip_c at h
  split at h
  · rename_i a0_0r a0_0i a0_1r a0_1i
    cases h
    exact ⟨rfl, agree_need (mk := impl_ValidShip_mk) (t := impl_ValidShip_tree ((a0_0r, a0_0i), (a0_1r, a0_1i))) (by unfold Agree; kernel_rfl)⟩
  · cases h

/-- loop.example/g01284/impl.toldShip -/
def impl_toldShip_tree (a0 : ((Nat × Nat) × (Nat × Nat))) : DT (((Nat × Nat) × (Nat × Nat)) × Bool) :=
  .need ((impl_ValidShip_need ((a0.1.1, a0.1.2), (a0.2.1, a0.2.2)))) (
  let x0 := impl_ValidShip ((a0.1.1, a0.1.2), (a0.2.1, a0.2.2));
  .ask (!x0)
  (
   .leaf (((0, 0), (0, 0)), false))
  (
   .leaf (((a0.1.1, a0.1.2), (a0.2.1, a0.2.2)), true)))
def impl_toldShip (a0 : ((Nat × Nat) × (Nat × Nat))) : ((Nat × Nat) × (Nat × Nat)) × Bool := (impl_toldShip_tree a0).val
def impl_toldShip_need (a0 : ((Nat × Nat) × (Nat × Nat))) : Bool := (impl_toldShip_tree a0).ok
def impl_toldShip_mk (p : ((Nat × Nat) × (Nat × Nat)) × Bool) : Ret := ⟨.tup [.agg [.cplx .f32 p.1.1.1 p.1.1.2, .cplx .f32 p.1.2.1 p.1.2.2], .bool p.2], []⟩
def impl_toldShip_c : Con := fun args => match args with
  | [.agg [.cplx .f32 a0_0r a0_0i, .cplx .f32 a0_1r a0_1i]] => some (.need (impl_toldShip_need ((a0_0r, a0_0i), (a0_1r, a0_1i))) (.leaf (impl_toldShip_mk (impl_toldShip ((a0_0r, a0_0i), (a0_1r, a0_1i))))))
  | _ => none
set_option maxRecDepth 100000 in
theorem impl_toldShip_ok : FunOK Tryd.prog 9 impl_toldShip_c.fn := by
  refine con_ok (Γ := gam [(15, impl_ValidShip_c)]) (gam_cons impl_ValidShip_ok (gam_nil)) tab_ok (by kernel_rfl) Tryd.func9 (by kernel_rfl) (by kernel_rfl) Tryd.ntmps9 Tryd.results9 (loopsOK_none rfl _) 100000 fun args t h => ?_
  unfold impl_toldShip_c at h
  split at h
  · rename_i a0_0r a0_0i a0_1r a0_1i
    cases h
    exact ⟨rfl, agree_need (mk := impl_toldShip_mk) (t := impl_toldShip_tree ((a0_0r, a0_0i), (a0_1r, a0_1i))) (by unfold Agree; kernel_rfl)⟩
  · cases h

/-- loop.example/g01284/impl.ReadShip -/
def impl_ReadShip_tree (a0 : (List UInt8)) : DT (((Nat × Nat) × (Nat × Nat)) × Bool) :=
  .need ((impl_ReadComplex_need a0)) (
  let x0 := impl_ReadComplex a0;
  .ask ((isL x0))
  (
   .skip (
   .skip (
   let x1 := ((List.length (leftD x0) : Nat) : Int);
   .skip (
   let x2 := (x1 != 2);
   .skip (
   .ask x2
   (
    .leaf (((0, 0), (0, 0)), false))
   (
    .need ((decide (0 ≤ 0) && decide (0 < ((List.length (leftD x0) : Nat) : Int)))) (
    .need ((decide (0 < List.length (leftD x0)))) (
    let x3 := List.getD (leftD x0) 0 default;
    .need ((decide (0 ≤ 1) && decide (1 < ((List.length (leftD x0) : Nat) : Int)))) (
    .need ((decide (1 < List.length (leftD x0)))) (
    let x4 := List.getD (leftD x0) 1 default;
    .need ((impl_toldShip_need ((x3.1, x3.2), (x4.1, x4.2)))) (
    let x5 := impl_toldShip ((x3.1, x3.2), (x4.1, x4.2));
    .leaf (((x5.1.1.1, x5.1.1.2), (x5.1.2.1, x5.1.2.2)), x5.2))))))))))))
  (
   .skip (
   .skip (
   .skip (
   .skip (
   .leaf (((0, 0), (0, 0)), false)))))))
def impl_ReadShip (a0 : (List UInt8)) : ((Nat × Nat) × (Nat × Nat)) × Bool := (impl_ReadShip_tree a0).val
def impl_ReadShip_need (a0 : (List UInt8)) : Bool := (impl_ReadShip_tree a0).ok
def impl_ReadShip_mk (p : ((Nat × Nat) × (Nat × Nat)) × Bool) : Ret := ⟨.tup [.agg [.cplx .f32 p.1.1.1 p.1.1.2, .cplx .f32 p.1.2.1 p.1.2.2], .bool p.2], []⟩
def impl_ReadShip_c : Con := fun args => match args with
  | [.str a0] => some (.need (impl_ReadShip_need a0) (.leaf (impl_ReadShip_mk (impl_ReadShip a0))))
  | _ => none
set_option maxRecDepth 100000 in
theorem impl_ReadShip_ok : FunOK Tryd.prog 5 impl_ReadShip_c.fn := by
  refine con_ok (Γ := gam [(8, impl_ReadComplex_c), (9, impl_toldShip_c)]) (gam_cons impl_ReadComplex_ok (gam_cons impl_toldShip_ok (gam_nil))) tab_ok (by kernel_rfl) Tryd.func5 (by kernel_rfl) (by kernel_rfl) Tryd.ntmps5 Tryd.results5 (loopsOK_none rfl _) 100000 fun args t h => ?_
  unfold impl_ReadShip_c at h
  split at h
  · rename_i a0
    cases h
    exact ⟨rfl, agree_need (mk := impl_ReadShip_mk) (t := impl_ReadShip_tree a0) (by unfold Agree; kernel_rfl)⟩
  · cases h

/-- loop.example/g01284/laws.sameFloat -/
def laws_sameFloat_tree (a0 : Nat) (a1 : Nat) : DT (Bool) :=
  let x0 := fne .f64 a0 a0;
  .ask x0
  (
   let x1 := fne .f64 a0 a0;
   .ask x1
   (
    let x2 := fne .f64 a1 a1;
    .leaf x2)
   (
    .leaf false))
  (
   let x1 := fne .f64 a1 a1;
   .ask x1
   (
    let x2 := fne .f64 a0 a0;
    .ask x2
    (
     let x3 := fne .f64 a1 a1;
     .leaf x3)
    (
     .leaf false))
   (
    let x2 := feq .f64 a0 0;
    .ask x2
    (
     let x3 := feq .f64 a1 0;
     .ask x3
     (
      let x4 := fdiv .f64 4607182418800017408 a0;
      let x5 := fgt .f64 x4 0;
      let x6 := fdiv .f64 4607182418800017408 a1;
      let x7 := fgt .f64 x6 0;
      let x8 := (x5 == x7);
      .leaf x8)
     (
      let x4 := feq .f64 a0 a1;
      .leaf x4))
    (
     let x3 := feq .f64 a0 a1;
     .leaf x3)))
def laws_sameFloat (a0 : Nat) (a1 : Nat) : Bool := (laws_sameFloat_tree a0 a1).val
def laws_sameFloat_mk (p : Bool) : Ret := ⟨.bool p, []⟩
def laws_sameFloat_c : Con := fun args => match args with
  | [.flt .f64 a0, .flt .f64 a1] => some (.leaf (laws_sameFloat_mk (laws_sameFloat a0 a1)))
  | _ => none
set_option maxRecDepth 100000 in
theorem laws_sameFloat_ok : FunOK Tryd.prog 16 laws_sameFloat_c.fn := by
  refine con_ok (Γ := gam []) (gam_nil) tab_ok (by kernel_rfl) Tryd.func16 (by kernel_rfl) (by kernel_rfl) Tryd.ntmps16 Tryd.results16 (loopsOK_none rfl _) 100000 fun args t h => ?_
  unfold laws_sameFloat_c at h
  split at h
  · rename_i a0 a1
    cases h
    exact ⟨rfl, agree_tot (mk := laws_sameFloat_mk) (t := laws_sameFloat_tree a0 a1) (by unfold Agree; kernel_rfl) (by kernel_rfl)⟩
  · cases h

/-- loop.example/g01284/laws.sameComplex -/
def laws_sameComplex_tree (a0 : (Nat × Nat)) (a1 : (Nat × Nat)) : DT (Bool) :=
  let x0 := laws_sameFloat a0.1 a1.1;
  .ask x0
  (
   let x1 := laws_sameFloat a0.2 a1.2;
   .leaf x1)
  (
   .leaf false)
def laws_sameComplex (a0 : (Nat × Nat)) (a1 : (Nat × Nat)) : Bool := (laws_sameComplex_tree a0 a1).val
def laws_sameComplex_mk (p : Bool) : Ret := ⟨.bool p, []⟩
def laws_sameComplex_c : Con := fun args => match args with
  | [.cplx .f64 a0r a0i, .cplx .f64 a1r a1i] => some (.leaf (laws_sameComplex_mk (laws_sameComplex (a0r, a0i) (a1r, a1i))))
  | _ => none
set_option maxRecDepth 100000 in
theorem laws_sameComplex_ok : FunOK Tryd.prog 10 laws_sameComplex_c.fn := by
  refine con_ok (Γ := gam [(16, laws_sameFloat_c)]) (gam_cons laws_sameFloat_ok (gam_nil)) tab_ok (by kernel_rfl) Tryd.func10 (by kernel_rfl) (by kernel_rfl) Tryd.ntmps10 Tryd.results10 (loopsOK_none rfl _) 100000 fun args t h => ?_
  unfold laws_sameComplex_c at h
  split at h
  · rename_i a0r a0i a1r a1i
    cases h
    exact ⟨rfl, agree_tot (mk := laws_sameComplex_mk) (t := laws_sameComplex_tree (a0r, a0i) (a1r, a1i)) (by unfold Agree; kernel_rfl) (by kernel_rfl)⟩
  · cases h

/-- loop.example/g01284/laws.eqShip -/
def laws_eqShip_tree (a0 : ((Nat × Nat) × (Nat × Nat))) (a1 : ((Nat × Nat) × (Nat × Nat))) : DT (Bool) :=
  .need ((fconvOk .f32 a0.1.1 .f64)) (
  .need ((fconvOk .f32 a0.1.2 .f64)) (
  let x0 := fconv .f32 a0.1.1 .f64;
  let x1 := fconv .f32 a0.1.2 .f64;
  .need ((fconvOk .f32 a1.1.1 .f64)) (
  .need ((fconvOk .f32 a1.1.2 .f64)) (
  let x2 := fconv .f32 a1.1.1 .f64;
  let x3 := fconv .f32 a1.1.2 .f64;
  let x4 := laws_sameComplex ((x0, x1)) ((x2, x3));
  .ask (!x4)
  (
   .leaf false)
  (
   .need ((fconvOk .f32 a0.2.1 .f64)) (
   .need ((fconvOk .f32 a0.2.2 .f64)) (
   let x5 := fconv .f32 a0.2.1 .f64;
   let x6 := fconv .f32 a0.2.2 .f64;
   .need ((fconvOk .f32 a1.2.1 .f64)) (
   .need ((fconvOk .f32 a1.2.2 .f64)) (
   let x7 := fconv .f32 a1.2.1 .f64;
   let x8 := fconv .f32 a1.2.2 .f64;
   let x9 := laws_sameComplex ((x5, x6)) ((x7, x8));
   .ask (!x9)
   (
    .leaf false)
   (
    .leaf true))))))))))
def laws_eqShip (a0 : ((Nat × Nat) × (Nat × Nat))) (a1 : ((Nat × Nat) × (Nat × Nat))) : Bool := (laws_eqShip_tree a0 a1).val
def laws_eqShip_need (a0 : ((Nat × Nat) × (Nat × Nat))) (a1 : ((Nat × Nat) × (Nat × Nat))) : Bool := (laws_eqShip_tree a0 a1).ok
def laws_eqShip_mk (p : Bool) : Ret := ⟨.bool p, []⟩
def laws_eqShip_c : Con := fun args => match args with
  | [.agg [.cplx .f32 a0_0r a0_0i, .cplx .f32 a0_1r a0_1i], .agg [.cplx .f32 a1_0r a1_0i, .cplx .f32 a1_1r a1_1i]] => some (.need (laws_eqShip_need ((a0_0r, a0_0i), (a0_1r, a0_1i)) ((a1_0r, a1_0i), (a1_1r, a1_1i))) (.leaf (laws_eqShip_mk (laws_eqShip ((a0_0r, a0_0i), (a0_1r, a0_1i)) ((a1_0r, a1_0i), (a1_1r, a1_1i))))))
  | _ => none
set_option maxRecDepth 100000 in
theorem laws_eqShip_ok : FunOK Tryd.prog 6 laws_eqShip_c.fn := by
  refine con_ok (Γ := gam [(10, laws_sameComplex_c)]) (gam_cons laws_sameComplex_ok (gam_nil)) tab_ok (by kernel_rfl) Tryd.func6 (by kernel_rfl) (by kernel_rfl) Tryd.ntmps6 Tryd.results6 (loopsOK_none rfl _) 100000 fun args t h => ?_
  unfold laws_eqShip_c at h
  split at h
  · rename_i a0_0r a0_0i a0_1r a0_1i a1_0r a1_0i a1_1r a1_1i
    cases h
    exact ⟨rfl, agree_need (mk := laws_eqShip_mk) (t := laws_eqShip_tree ((a0_0r, a0_0i), (a0_1r, a0_1i)) ((a1_0r, a1_0i), (a1_1r, a1_1i))) (by unfold Agree; kernel_rfl)⟩
  · cases h

/-- loop.example/g01284/laws.FnExactReadShip -/
def laws_FnExactReadShip_tree (a0 : (List UInt8)) : DT (Bool) :=
  let x0 := ((List.length a0 : Nat) : Int);
  let x1 := decide (x0 > 1048576);
  .ask x1
  (
   .leaf true)
  (
   .need ((spec_ReadShip_need a0)) (
   let x2 := spec_ReadShip a0;
   .need ((impl_ReadShip_need a0)) (
   let x3 := impl_ReadShip a0;
   .need ((laws_eqShip_need ((x3.1.1.1, x3.1.1.2), (x3.1.2.1, x3.1.2.2)) ((x2.1.1.1, x2.1.1.2), (x2.1.2.1, x2.1.2.2)))) (
   let x4 := laws_eqShip ((x3.1.1.1, x3.1.1.2), (x3.1.2.1, x3.1.2.2)) ((x2.1.1.1, x2.1.1.2), (x2.1.2.1, x2.1.2.2));
   .ask (!x4)
   (
    .leaf false)
   (
    let x5 := (!(x3.2 == x2.2));
    .ask x5
    (
     .leaf false)
    (
     .leaf true))))))
def laws_FnExactReadShip (a0 : (List UInt8)) : Bool := (laws_FnExactReadShip_tree a0).val
def laws_FnExactReadShip_need (a0 : (List UInt8)) : Bool := (laws_FnExactReadShip_tree a0).ok
def laws_FnExactReadShip_mk (p : Bool) : Ret := ⟨.bool p, []⟩
def laws_FnExactReadShip_c : Con := fun args => match args with
  | [.str a0] => some (.need (laws_FnExactReadShip_need a0) (.leaf (laws_FnExactReadShip_mk (laws_FnExactReadShip a0))))
  | _ => none
set_option maxRecDepth 100000 in
theorem laws_FnExactReadShip_ok : FunOK Tryd.prog 3 laws_FnExactReadShip_c.fn := by
  refine con_ok (Γ := gam [(4, spec_ReadShip_c), (5, impl_ReadShip_c), (6, laws_eqShip_c)]) (gam_cons spec_ReadShip_ok (gam_cons impl_ReadShip_ok (gam_cons laws_eqShip_ok (gam_nil)))) tab_ok (by kernel_rfl) Tryd.func3 (by kernel_rfl) (by kernel_rfl) Tryd.ntmps3 Tryd.results3 (loopsOK_none rfl _) 100000 fun args t h => ?_
  unfold laws_FnExactReadShip_c at h
  split at h
  · rename_i a0
    cases h
    exact ⟨rfl, agree_need (mk := laws_FnExactReadShip_mk) (t := laws_FnExactReadShip_tree a0) (by unfold Agree; kernel_rfl)⟩
  · cases h

end
end Go.Proofs.YtacelaaifaffpaaDoor
