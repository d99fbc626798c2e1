/- THE WALK, BY A PROGRAM: typed functions, and that the code is they. -/
import Derived.Test.YtacelaaifaffpaaGreatDoorTab
namespace Go.Proofs.YtacelaaifaffpaaGreatDoor
set_option linter.unusedVariables false
set_option linter.unusedSimpArgs false
open Go.Extern
noncomputable section

set_option maxRecDepth 100000 in
theorem math_Float32bits_ok : FunOK Tryz.prog 44 math_Float32bits_c.fn := bits32_ok (run_callFunc_extern Tryz.func44 (by kernel_rfl) (by kernel_rfl) (by kernel_rfl) (by kernel_rfl))

/-- loop.example/g01284/impl.BitsOf -/
def impl_BitsOf_tree (a0 : Nat) : DT (Int) :=
  let x0 := fne .f32 a0 a0;
  .ask x0
  (
   .leaf 2143289344)
  (
   .need ((!isNaN .f32 a0)) (
   let x1 := IntKind.wrap .i64 ((a0 : Nat) : Int);
   .leaf x1))
def impl_BitsOf (a0 : Nat) : Int := (impl_BitsOf_tree a0).val
def impl_BitsOf_need (a0 : Nat) : Bool := (impl_BitsOf_tree a0).ok
def impl_BitsOf_mk (p : Int) : Ret := ⟨.int .i64 p, []⟩
def impl_BitsOf_c : Con := fun args => match args with
  | [.flt .f32 a0] => some (.need (impl_BitsOf_need a0) (.leaf (impl_BitsOf_mk (impl_BitsOf a0))))
  | _ => none
set_option maxRecDepth 100000 in
theorem impl_BitsOf_ok : FunOK Tryz.prog 50 impl_BitsOf_c.fn := by
  refine con_ok (Γ := gam [(44, math_Float32bits_c)]) (gam_cons math_Float32bits_ok (gam_nil)) tab_ok (by kernel_rfl) Tryz.func50 (by kernel_rfl) (by kernel_rfl) Tryz.ntmps50 Tryz.results50 (loopsOK_none rfl _) 100000 fun args t h => ?_
  unfold impl_BitsOf_c at h
  split at h
  · rename_i a0
    cases h
    exact ⟨rfl, agree_need (mk := impl_BitsOf_mk) (t := impl_BitsOf_tree a0) (by unfold Agree; kernel_rfl)⟩
  · cases h

/-- internal/strconv.small -/
def internal_strconv_small_tree (a0 : Int) : DT ((List UInt8)) :=
  let x0 := decide (a0 < 10);
  .ask x0
  (
   let x1 := IntKind.wrap .i64 (a0 + 1);
   .need ((decide (0 ≤ x1) && decide (x1 ≤ ((List.length [48, 49, 50, 51, 52, 53, 54, 55, 56, 57, 97, 98, 99, 100, 101, 102, 103, 104, 105, 106, 107, 108, 109, 110, 111, 112, 113, 114, 115, 116, 117, 118, 119, 120, 121, 122] : Nat) : Int)))) (
   .need ((decide (0 ≤ a0) && decide (a0 ≤ (((Int.toNat x1) : Nat) : Int)))) (
   let x2 := List.drop (Int.toNat a0) (List.take (Int.toNat x1) [48, 49, 50, 51, 52, 53, 54, 55, 56, 57, 97, 98, 99, 100, 101, 102, 103, 104, 105, 106, 107, 108, 109, 110, 111, 112, 113, 114, 115, 116, 117, 118, 119, 120, 121, 122]);
   .leaf x2)))
  (
   let x1 := IntKind.wrap .i64 (a0 * 2);
   let x2 := IntKind.wrap .i64 (a0 * 2);
   let x3 := IntKind.wrap .i64 (x2 + 2);
   .need ((decide (0 ≤ x3) && decide (x3 ≤ ((List.length [48, 48, 48, 49, 48, 50, 48, 51, 48, 52, 48, 53, 48, 54, 48, 55, 48, 56, 48, 57, 49, 48, 49, 49, 49, 50, 49, 51, 49, 52, 49, 53, 49, 54, 49, 55, 49, 56, 49, 57, 50, 48, 50, 49, 50, 50, 50, 51, 50, 52, 50, 53, 50, 54, 50, 55, 50, 56, 50, 57, 51, 48, 51, 49, 51, 50, 51, 51, 51, 52, 51, 53, 51, 54, 51, 55, 51, 56, 51, 57, 52, 48, 52, 49, 52, 50, 52, 51, 52, 52, 52, 53, 52, 54, 52, 55, 52, 56, 52, 57, 53, 48, 53, 49, 53, 50, 53, 51, 53, 52, 53, 53, 53, 54, 53, 55, 53, 56, 53, 57, 54, 48, 54, 49, 54, 50, 54, 51, 54, 52, 54, 53, 54, 54, 54, 55, 54, 56, 54, 57, 55, 48, 55, 49, 55, 50, 55, 51, 55, 52, 55, 53, 55, 54, 55, 55, 55, 56, 55, 57, 56, 48, 56, 49, 56, 50, 56, 51, 56, 52, 56, 53, 56, 54, 56, 55, 56, 56, 56, 57, 57, 48, 57, 49, 57, 50, 57, 51, 57, 52, 57, 53, 57, 54, 57, 55, 57, 56, 57, 57] : Nat) : Int)))) (
   .need ((decide (0 ≤ x1) && decide (x1 ≤ (((Int.toNat x3) : Nat) : Int)))) (
   let x4 := List.drop (Int.toNat x1) (List.take (Int.toNat x3) [48, 48, 48, 49, 48, 50, 48, 51, 48, 52, 48, 53, 48, 54, 48, 55, 48, 56, 48, 57, 49, 48, 49, 49, 49, 50, 49, 51, 49, 52, 49, 53, 49, 54, 49, 55, 49, 56, 49, 57, 50, 48, 50, 49, 50, 50, 50, 51, 50, 52, 50, 53, 50, 54, 50, 55, 50, 56, 50, 57, 51, 48, 51, 49, 51, 50, 51, 51, 51, 52, 51, 53, 51, 54, 51, 55, 51, 56, 51, 57, 52, 48, 52, 49, 52, 50, 52, 51, 52, 52, 52, 53, 52, 54, 52, 55, 52, 56, 52, 57, 53, 48, 53, 49, 53, 50, 53, 51, 53, 52, 53, 53, 53, 54, 53, 55, 53, 56, 53, 57, 54, 48, 54, 49, 54, 50, 54, 51, 54, 52, 54, 53, 54, 54, 54, 55, 54, 56, 54, 57, 55, 48, 55, 49, 55, 50, 55, 51, 55, 52, 55, 53, 55, 54, 55, 55, 55, 56, 55, 57, 56, 48, 56, 49, 56, 50, 56, 51, 56, 52, 56, 53, 56, 54, 56, 55, 56, 56, 56, 57, 57, 48, 57, 49, 57, 50, 57, 51, 57, 52, 57, 53, 57, 54, 57, 55, 57, 56, 57, 57]);
   .leaf x4)))
def internal_strconv_small (a0 : Int) : (List UInt8) := (internal_strconv_small_tree a0).val
def internal_strconv_small_need (a0 : Int) : Bool := (internal_strconv_small_tree a0).ok
def internal_strconv_small_mk (p : (List UInt8)) : Ret := ⟨.str p, []⟩
def internal_strconv_small_c : Con := fun args => match args with
  | [.int .i64 a0] => some (.need (internal_strconv_small_need a0) (.leaf (internal_strconv_small_mk (internal_strconv_small a0))))
  | _ => none
set_option maxRecDepth 100000 in
theorem internal_strconv_small_ok : FunOK Tryz.prog 68 internal_strconv_small_c.fn := by
  refine con_ok (Γ := gam []) (gam_nil) tab_ok (by kernel_rfl) Tryz.func68 (by kernel_rfl) (by kernel_rfl) Tryz.ntmps68 Tryz.results68 (loopsOK_none rfl _) 100000 fun args t h => ?_
  unfold internal_strconv_small_c at h
  split at h
  · rename_i a0
    cases h
    exact ⟨rfl, agree_need (mk := internal_strconv_small_mk) (t := internal_strconv_small_tree a0) (by unfold Agree; kernel_rfl)⟩
  · cases h

/-- math/bits.Len64 -/
def math_bits_Len64_tree (a0 : Int) : DT (Int) :=
  let x0 := decide (a0 ≥ 4294967296);
  .ask x0
  (
   .skip (
   let x1 := Int.fdiv a0 (2 ^ (min (Int.toNat 32) (IntKind.bits .u64)));
   let x2 := decide (x1 ≥ 65536);
   .ask x2
   (
    .skip (
    let x3 := Int.fdiv x1 (2 ^ (min (Int.toNat 16) (IntKind.bits .u64)));
    let x4 := decide (x3 ≥ 256);
    .ask x4
    (
     .skip (
     let x5 := Int.fdiv x3 (2 ^ (min (Int.toNat 8) (IntKind.bits .u64)));
     let x6 := IntKind.wrap .u8 x5;
     .need ((decide (0 ≤ x6) && decide (x6 < ((List.length [0, 1, 2, 2, 3, 3, 3, 3, 4, 4, 4, 4, 4, 4, 4, 4, 5, 5, 5, 5, 5, 5, 5, 5, 5, 5, 5, 5, 5, 5, 5, 5, 6, 6, 6, 6, 6, 6, 6, 6, 6, 6, 6, 6, 6, 6, 6, 6, 6, 6, 6, 6, 6, 6, 6, 6, 6, 6, 6, 6, 6, 6, 6, 6, 7, 7, 7, 7, 7, 7, 7, 7, 7, 7, 7, 7, 7, 7, 7, 7, 7, 7, 7, 7, 7, 7, 7, 7, 7, 7, 7, 7, 7, 7, 7, 7, 7, 7, 7, 7, 7, 7, 7, 7, 7, 7, 7, 7, 7, 7, 7, 7, 7, 7, 7, 7, 7, 7, 7, 7, 7, 7, 7, 7, 7, 7, 7, 7, 8, 8, 8, 8, 8, 8, 8, 8, 8, 8, 8, 8, 8, 8, 8, 8, 8, 8, 8, 8, 8, 8, 8, 8, 8, 8, 8, 8, 8, 8, 8, 8, 8, 8, 8, 8, 8, 8, 8, 8, 8, 8, 8, 8, 8, 8, 8, 8, 8, 8, 8, 8, 8, 8, 8, 8, 8, 8, 8, 8, 8, 8, 8, 8, 8, 8, 8, 8, 8, 8, 8, 8, 8, 8, 8, 8, 8, 8, 8, 8, 8, 8, 8, 8, 8, 8, 8, 8, 8, 8, 8, 8, 8, 8, 8, 8, 8, 8, 8, 8, 8, 8, 8, 8, 8, 8, 8, 8, 8, 8, 8, 8, 8, 8, 8, 8, 8, 8, 8, 8, 8, 8, 8, 8, 8, 8, 8, 8] : Nat) : Int)))) (
     let x7 := ((List.getD ([0, 1, 2, 2, 3, 3, 3, 3, 4, 4, 4, 4, 4, 4, 4, 4, 5, 5, 5, 5, 5, 5, 5, 5, 5, 5, 5, 5, 5, 5, 5, 5, 6, 6, 6, 6, 6, 6, 6, 6, 6, 6, 6, 6, 6, 6, 6, 6, 6, 6, 6, 6, 6, 6, 6, 6, 6, 6, 6, 6, 6, 6, 6, 6, 7, 7, 7, 7, 7, 7, 7, 7, 7, 7, 7, 7, 7, 7, 7, 7, 7, 7, 7, 7, 7, 7, 7, 7, 7, 7, 7, 7, 7, 7, 7, 7, 7, 7, 7, 7, 7, 7, 7, 7, 7, 7, 7, 7, 7, 7, 7, 7, 7, 7, 7, 7, 7, 7, 7, 7, 7, 7, 7, 7, 7, 7, 7, 7, 8, 8, 8, 8, 8, 8, 8, 8, 8, 8, 8, 8, 8, 8, 8, 8, 8, 8, 8, 8, 8, 8, 8, 8, 8, 8, 8, 8, 8, 8, 8, 8, 8, 8, 8, 8, 8, 8, 8, 8, 8, 8, 8, 8, 8, 8, 8, 8, 8, 8, 8, 8, 8, 8, 8, 8, 8, 8, 8, 8, 8, 8, 8, 8, 8, 8, 8, 8, 8, 8, 8, 8, 8, 8, 8, 8, 8, 8, 8, 8, 8, 8, 8, 8, 8, 8, 8, 8, 8, 8, 8, 8, 8, 8, 8, 8, 8, 8, 8, 8, 8, 8, 8, 8, 8, 8, 8, 8, 8, 8, 8, 8, 8, 8, 8, 8, 8, 8, 8, 8, 8, 8, 8, 8, 8, 8, 8, 8] : List UInt8) (Int.toNat x6) 0).toNat : Int);
     let x8 := IntKind.wrap .i64 x7;
     let x9 := IntKind.wrap .i64 (56 + x8);
     .leaf x9)))
    (
     let x5 := IntKind.wrap .u8 x3;
     .need ((decide (0 ≤ x5) && decide (x5 < ((List.length [0, 1, 2, 2, 3, 3, 3, 3, 4, 4, 4, 4, 4, 4, 4, 4, 5, 5, 5, 5, 5, 5, 5, 5, 5, 5, 5, 5, 5, 5, 5, 5, 6, 6, 6, 6, 6, 6, 6, 6, 6, 6, 6, 6, 6, 6, 6, 6, 6, 6, 6, 6, 6, 6, 6, 6, 6, 6, 6, 6, 6, 6, 6, 6, 7, 7, 7, 7, 7, 7, 7, 7, 7, 7, 7, 7, 7, 7, 7, 7, 7, 7, 7, 7, 7, 7, 7, 7, 7, 7, 7, 7, 7, 7, 7, 7, 7, 7, 7, 7, 7, 7, 7, 7, 7, 7, 7, 7, 7, 7, 7, 7, 7, 7, 7, 7, 7, 7, 7, 7, 7, 7, 7, 7, 7, 7, 7, 7, 8, 8, 8, 8, 8, 8, 8, 8, 8, 8, 8, 8, 8, 8, 8, 8, 8, 8, 8, 8, 8, 8, 8, 8, 8, 8, 8, 8, 8, 8, 8, 8, 8, 8, 8, 8, 8, 8, 8, 8, 8, 8, 8, 8, 8, 8, 8, 8, 8, 8, 8, 8, 8, 8, 8, 8, 8, 8, 8, 8, 8, 8, 8, 8, 8, 8, 8, 8, 8, 8, 8, 8, 8, 8, 8, 8, 8, 8, 8, 8, 8, 8, 8, 8, 8, 8, 8, 8, 8, 8, 8, 8, 8, 8, 8, 8, 8, 8, 8, 8, 8, 8, 8, 8, 8, 8, 8, 8, 8, 8, 8, 8, 8, 8, 8, 8, 8, 8, 8, 8, 8, 8, 8, 8, 8, 8, 8, 8] : Nat) : Int)))) (
     let x6 := ((List.getD ([0, 1, 2, 2, 3, 3, 3, 3, 4, 4, 4, 4, 4, 4, 4, 4, 5, 5, 5, 5, 5, 5, 5, 5, 5, 5, 5, 5, 5, 5, 5, 5, 6, 6, 6, 6, 6, 6, 6, 6, 6, 6, 6, 6, 6, 6, 6, 6, 6, 6, 6, 6, 6, 6, 6, 6, 6, 6, 6, 6, 6, 6, 6, 6, 7, 7, 7, 7, 7, 7, 7, 7, 7, 7, 7, 7, 7, 7, 7, 7, 7, 7, 7, 7, 7, 7, 7, 7, 7, 7, 7, 7, 7, 7, 7, 7, 7, 7, 7, 7, 7, 7, 7, 7, 7, 7, 7, 7, 7, 7, 7, 7, 7, 7, 7, 7, 7, 7, 7, 7, 7, 7, 7, 7, 7, 7, 7, 7, 8, 8, 8, 8, 8, 8, 8, 8, 8, 8, 8, 8, 8, 8, 8, 8, 8, 8, 8, 8, 8, 8, 8, 8, 8, 8, 8, 8, 8, 8, 8, 8, 8, 8, 8, 8, 8, 8, 8, 8, 8, 8, 8, 8, 8, 8, 8, 8, 8, 8, 8, 8, 8, 8, 8, 8, 8, 8, 8, 8, 8, 8, 8, 8, 8, 8, 8, 8, 8, 8, 8, 8, 8, 8, 8, 8, 8, 8, 8, 8, 8, 8, 8, 8, 8, 8, 8, 8, 8, 8, 8, 8, 8, 8, 8, 8, 8, 8, 8, 8, 8, 8, 8, 8, 8, 8, 8, 8, 8, 8, 8, 8, 8, 8, 8, 8, 8, 8, 8, 8, 8, 8, 8, 8, 8, 8, 8, 8] : List UInt8) (Int.toNat x5) 0).toNat : Int);
     let x7 := IntKind.wrap .i64 x6;
     let x8 := IntKind.wrap .i64 (48 + x7);
     .leaf x8))))
   (
    let x3 := decide (x1 ≥ 256);
    .ask x3
    (
     .skip (
     let x4 := Int.fdiv x1 (2 ^ (min (Int.toNat 8) (IntKind.bits .u64)));
     let x5 := IntKind.wrap .u8 x4;
     .need ((decide (0 ≤ x5) && decide (x5 < ((List.length [0, 1, 2, 2, 3, 3, 3, 3, 4, 4, 4, 4, 4, 4, 4, 4, 5, 5, 5, 5, 5, 5, 5, 5, 5, 5, 5, 5, 5, 5, 5, 5, 6, 6, 6, 6, 6, 6, 6, 6, 6, 6, 6, 6, 6, 6, 6, 6, 6, 6, 6, 6, 6, 6, 6, 6, 6, 6, 6, 6, 6, 6, 6, 6, 7, 7, 7, 7, 7, 7, 7, 7, 7, 7, 7, 7, 7, 7, 7, 7, 7, 7, 7, 7, 7, 7, 7, 7, 7, 7, 7, 7, 7, 7, 7, 7, 7, 7, 7, 7, 7, 7, 7, 7, 7, 7, 7, 7, 7, 7, 7, 7, 7, 7, 7, 7, 7, 7, 7, 7, 7, 7, 7, 7, 7, 7, 7, 7, 8, 8, 8, 8, 8, 8, 8, 8, 8, 8, 8, 8, 8, 8, 8, 8, 8, 8, 8, 8, 8, 8, 8, 8, 8, 8, 8, 8, 8, 8, 8, 8, 8, 8, 8, 8, 8, 8, 8, 8, 8, 8, 8, 8, 8, 8, 8, 8, 8, 8, 8, 8, 8, 8, 8, 8, 8, 8, 8, 8, 8, 8, 8, 8, 8, 8, 8, 8, 8, 8, 8, 8, 8, 8, 8, 8, 8, 8, 8, 8, 8, 8, 8, 8, 8, 8, 8, 8, 8, 8, 8, 8, 8, 8, 8, 8, 8, 8, 8, 8, 8, 8, 8, 8, 8, 8, 8, 8, 8, 8, 8, 8, 8, 8, 8, 8, 8, 8, 8, 8, 8, 8, 8, 8, 8, 8, 8, 8] : Nat) : Int)))) (
     let x6 := ((List.getD ([0, 1, 2, 2, 3, 3, 3, 3, 4, 4, 4, 4, 4, 4, 4, 4, 5, 5, 5, 5, 5, 5, 5, 5, 5, 5, 5, 5, 5, 5, 5, 5, 6, 6, 6, 6, 6, 6, 6, 6, 6, 6, 6, 6, 6, 6, 6, 6, 6, 6, 6, 6, 6, 6, 6, 6, 6, 6, 6, 6, 6, 6, 6, 6, 7, 7, 7, 7, 7, 7, 7, 7, 7, 7, 7, 7, 7, 7, 7, 7, 7, 7, 7, 7, 7, 7, 7, 7, 7, 7, 7, 7, 7, 7, 7, 7, 7, 7, 7, 7, 7, 7, 7, 7, 7, 7, 7, 7, 7, 7, 7, 7, 7, 7, 7, 7, 7, 7, 7, 7, 7, 7, 7, 7, 7, 7, 7, 7, 8, 8, 8, 8, 8, 8, 8, 8, 8, 8, 8, 8, 8, 8, 8, 8, 8, 8, 8, 8, 8, 8, 8, 8, 8, 8, 8, 8, 8, 8, 8, 8, 8, 8, 8, 8, 8, 8, 8, 8, 8, 8, 8, 8, 8, 8, 8, 8, 8, 8, 8, 8, 8, 8, 8, 8, 8, 8, 8, 8, 8, 8, 8, 8, 8, 8, 8, 8, 8, 8, 8, 8, 8, 8, 8, 8, 8, 8, 8, 8, 8, 8, 8, 8, 8, 8, 8, 8, 8, 8, 8, 8, 8, 8, 8, 8, 8, 8, 8, 8, 8, 8, 8, 8, 8, 8, 8, 8, 8, 8, 8, 8, 8, 8, 8, 8, 8, 8, 8, 8, 8, 8, 8, 8, 8, 8, 8, 8] : List UInt8) (Int.toNat x5) 0).toNat : Int);
     let x7 := IntKind.wrap .i64 x6;
     let x8 := IntKind.wrap .i64 (40 + x7);
     .leaf x8)))
    (
     let x4 := IntKind.wrap .u8 x1;
     .need ((decide (0 ≤ x4) && decide (x4 < ((List.length [0, 1, 2, 2, 3, 3, 3, 3, 4, 4, 4, 4, 4, 4, 4, 4, 5, 5, 5, 5, 5, 5, 5, 5, 5, 5, 5, 5, 5, 5, 5, 5, 6, 6, 6, 6, 6, 6, 6, 6, 6, 6, 6, 6, 6, 6, 6, 6, 6, 6, 6, 6, 6, 6, 6, 6, 6, 6, 6, 6, 6, 6, 6, 6, 7, 7, 7, 7, 7, 7, 7, 7, 7, 7, 7, 7, 7, 7, 7, 7, 7, 7, 7, 7, 7, 7, 7, 7, 7, 7, 7, 7, 7, 7, 7, 7, 7, 7, 7, 7, 7, 7, 7, 7, 7, 7, 7, 7, 7, 7, 7, 7, 7, 7, 7, 7, 7, 7, 7, 7, 7, 7, 7, 7, 7, 7, 7, 7, 8, 8, 8, 8, 8, 8, 8, 8, 8, 8, 8, 8, 8, 8, 8, 8, 8, 8, 8, 8, 8, 8, 8, 8, 8, 8, 8, 8, 8, 8, 8, 8, 8, 8, 8, 8, 8, 8, 8, 8, 8, 8, 8, 8, 8, 8, 8, 8, 8, 8, 8, 8, 8, 8, 8, 8, 8, 8, 8, 8, 8, 8, 8, 8, 8, 8, 8, 8, 8, 8, 8, 8, 8, 8, 8, 8, 8, 8, 8, 8, 8, 8, 8, 8, 8, 8, 8, 8, 8, 8, 8, 8, 8, 8, 8, 8, 8, 8, 8, 8, 8, 8, 8, 8, 8, 8, 8, 8, 8, 8, 8, 8, 8, 8, 8, 8, 8, 8, 8, 8, 8, 8, 8, 8, 8, 8, 8, 8] : Nat) : Int)))) (
     let x5 := ((List.getD ([0, 1, 2, 2, 3, 3, 3, 3, 4, 4, 4, 4, 4, 4, 4, 4, 5, 5, 5, 5, 5, 5, 5, 5, 5, 5, 5, 5, 5, 5, 5, 5, 6, 6, 6, 6, 6, 6, 6, 6, 6, 6, 6, 6, 6, 6, 6, 6, 6, 6, 6, 6, 6, 6, 6, 6, 6, 6, 6, 6, 6, 6, 6, 6, 7, 7, 7, 7, 7, 7, 7, 7, 7, 7, 7, 7, 7, 7, 7, 7, 7, 7, 7, 7, 7, 7, 7, 7, 7, 7, 7, 7, 7, 7, 7, 7, 7, 7, 7, 7, 7, 7, 7, 7, 7, 7, 7, 7, 7, 7, 7, 7, 7, 7, 7, 7, 7, 7, 7, 7, 7, 7, 7, 7, 7, 7, 7, 7, 8, 8, 8, 8, 8, 8, 8, 8, 8, 8, 8, 8, 8, 8, 8, 8, 8, 8, 8, 8, 8, 8, 8, 8, 8, 8, 8, 8, 8, 8, 8, 8, 8, 8, 8, 8, 8, 8, 8, 8, 8, 8, 8, 8, 8, 8, 8, 8, 8, 8, 8, 8, 8, 8, 8, 8, 8, 8, 8, 8, 8, 8, 8, 8, 8, 8, 8, 8, 8, 8, 8, 8, 8, 8, 8, 8, 8, 8, 8, 8, 8, 8, 8, 8, 8, 8, 8, 8, 8, 8, 8, 8, 8, 8, 8, 8, 8, 8, 8, 8, 8, 8, 8, 8, 8, 8, 8, 8, 8, 8, 8, 8, 8, 8, 8, 8, 8, 8, 8, 8, 8, 8, 8, 8, 8, 8, 8, 8] : List UInt8) (Int.toNat x4) 0).toNat : Int);
     let x6 := IntKind.wrap .i64 x5;
     let x7 := IntKind.wrap .i64 (32 + x6);
     .leaf x7)))))
  (
   let x1 := decide (a0 ≥ 65536);
   .ask x1
   (
    .skip (
    let x2 := Int.fdiv a0 (2 ^ (min (Int.toNat 16) (IntKind.bits .u64)));
    let x3 := decide (x2 ≥ 256);
    .ask x3
    (
     .skip (
     let x4 := Int.fdiv x2 (2 ^ (min (Int.toNat 8) (IntKind.bits .u64)));
     let x5 := IntKind.wrap .u8 x4;
     .need ((decide (0 ≤ x5) && decide (x5 < ((List.length [0, 1, 2, 2, 3, 3, 3, 3, 4, 4, 4, 4, 4, 4, 4, 4, 5, 5, 5, 5, 5, 5, 5, 5, 5, 5, 5, 5, 5, 5, 5, 5, 6, 6, 6, 6, 6, 6, 6, 6, 6, 6, 6, 6, 6, 6, 6, 6, 6, 6, 6, 6, 6, 6, 6, 6, 6, 6, 6, 6, 6, 6, 6, 6, 7, 7, 7, 7, 7, 7, 7, 7, 7, 7, 7, 7, 7, 7, 7, 7, 7, 7, 7, 7, 7, 7, 7, 7, 7, 7, 7, 7, 7, 7, 7, 7, 7, 7, 7, 7, 7, 7, 7, 7, 7, 7, 7, 7, 7, 7, 7, 7, 7, 7, 7, 7, 7, 7, 7, 7, 7, 7, 7, 7, 7, 7, 7, 7, 8, 8, 8, 8, 8, 8, 8, 8, 8, 8, 8, 8, 8, 8, 8, 8, 8, 8, 8, 8, 8, 8, 8, 8, 8, 8, 8, 8, 8, 8, 8, 8, 8, 8, 8, 8, 8, 8, 8, 8, 8, 8, 8, 8, 8, 8, 8, 8, 8, 8, 8, 8, 8, 8, 8, 8, 8, 8, 8, 8, 8, 8, 8, 8, 8, 8, 8, 8, 8, 8, 8, 8, 8, 8, 8, 8, 8, 8, 8, 8, 8, 8, 8, 8, 8, 8, 8, 8, 8, 8, 8, 8, 8, 8, 8, 8, 8, 8, 8, 8, 8, 8, 8, 8, 8, 8, 8, 8, 8, 8, 8, 8, 8, 8, 8, 8, 8, 8, 8, 8, 8, 8, 8, 8, 8, 8, 8, 8] : Nat) : Int)))) (
     let x6 := ((List.getD ([0, 1, 2, 2, 3, 3, 3, 3, 4, 4, 4, 4, 4, 4, 4, 4, 5, 5, 5, 5, 5, 5, 5, 5, 5, 5, 5, 5, 5, 5, 5, 5, 6, 6, 6, 6, 6, 6, 6, 6, 6, 6, 6, 6, 6, 6, 6, 6, 6, 6, 6, 6, 6, 6, 6, 6, 6, 6, 6, 6, 6, 6, 6, 6, 7, 7, 7, 7, 7, 7, 7, 7, 7, 7, 7, 7, 7, 7, 7, 7, 7, 7, 7, 7, 7, 7, 7, 7, 7, 7, 7, 7, 7, 7, 7, 7, 7, 7, 7, 7, 7, 7, 7, 7, 7, 7, 7, 7, 7, 7, 7, 7, 7, 7, 7, 7, 7, 7, 7, 7, 7, 7, 7, 7, 7, 7, 7, 7, 8, 8, 8, 8, 8, 8, 8, 8, 8, 8, 8, 8, 8, 8, 8, 8, 8, 8, 8, 8, 8, 8, 8, 8, 8, 8, 8, 8, 8, 8, 8, 8, 8, 8, 8, 8, 8, 8, 8, 8, 8, 8, 8, 8, 8, 8, 8, 8, 8, 8, 8, 8, 8, 8, 8, 8, 8, 8, 8, 8, 8, 8, 8, 8, 8, 8, 8, 8, 8, 8, 8, 8, 8, 8, 8, 8, 8, 8, 8, 8, 8, 8, 8, 8, 8, 8, 8, 8, 8, 8, 8, 8, 8, 8, 8, 8, 8, 8, 8, 8, 8, 8, 8, 8, 8, 8, 8, 8, 8, 8, 8, 8, 8, 8, 8, 8, 8, 8, 8, 8, 8, 8, 8, 8, 8, 8, 8, 8] : List UInt8) (Int.toNat x5) 0).toNat : Int);
     let x7 := IntKind.wrap .i64 x6;
     let x8 := IntKind.wrap .i64 (24 + x7);
     .leaf x8)))
    (
     let x4 := IntKind.wrap .u8 x2;
     .need ((decide (0 ≤ x4) && decide (x4 < ((List.length [0, 1, 2, 2, 3, 3, 3, 3, 4, 4, 4, 4, 4, 4, 4, 4, 5, 5, 5, 5, 5, 5, 5, 5, 5, 5, 5, 5, 5, 5, 5, 5, 6, 6, 6, 6, 6, 6, 6, 6, 6, 6, 6, 6, 6, 6, 6, 6, 6, 6, 6, 6, 6, 6, 6, 6, 6, 6, 6, 6, 6, 6, 6, 6, 7, 7, 7, 7, 7, 7, 7, 7, 7, 7, 7, 7, 7, 7, 7, 7, 7, 7, 7, 7, 7, 7, 7, 7, 7, 7, 7, 7, 7, 7, 7, 7, 7, 7, 7, 7, 7, 7, 7, 7, 7, 7, 7, 7, 7, 7, 7, 7, 7, 7, 7, 7, 7, 7, 7, 7, 7, 7, 7, 7, 7, 7, 7, 7, 8, 8, 8, 8, 8, 8, 8, 8, 8, 8, 8, 8, 8, 8, 8, 8, 8, 8, 8, 8, 8, 8, 8, 8, 8, 8, 8, 8, 8, 8, 8, 8, 8, 8, 8, 8, 8, 8, 8, 8, 8, 8, 8, 8, 8, 8, 8, 8, 8, 8, 8, 8, 8, 8, 8, 8, 8, 8, 8, 8, 8, 8, 8, 8, 8, 8, 8, 8, 8, 8, 8, 8, 8, 8, 8, 8, 8, 8, 8, 8, 8, 8, 8, 8, 8, 8, 8, 8, 8, 8, 8, 8, 8, 8, 8, 8, 8, 8, 8, 8, 8, 8, 8, 8, 8, 8, 8, 8, 8, 8, 8, 8, 8, 8, 8, 8, 8, 8, 8, 8, 8, 8, 8, 8, 8, 8, 8, 8] : Nat) : Int)))) (
     let x5 := ((List.getD ([0, 1, 2, 2, 3, 3, 3, 3, 4, 4, 4, 4, 4, 4, 4, 4, 5, 5, 5, 5, 5, 5, 5, 5, 5, 5, 5, 5, 5, 5, 5, 5, 6, 6, 6, 6, 6, 6, 6, 6, 6, 6, 6, 6, 6, 6, 6, 6, 6, 6, 6, 6, 6, 6, 6, 6, 6, 6, 6, 6, 6, 6, 6, 6, 7, 7, 7, 7, 7, 7, 7, 7, 7, 7, 7, 7, 7, 7, 7, 7, 7, 7, 7, 7, 7, 7, 7, 7, 7, 7, 7, 7, 7, 7, 7, 7, 7, 7, 7, 7, 7, 7, 7, 7, 7, 7, 7, 7, 7, 7, 7, 7, 7, 7, 7, 7, 7, 7, 7, 7, 7, 7, 7, 7, 7, 7, 7, 7, 8, 8, 8, 8, 8, 8, 8, 8, 8, 8, 8, 8, 8, 8, 8, 8, 8, 8, 8, 8, 8, 8, 8, 8, 8, 8, 8, 8, 8, 8, 8, 8, 8, 8, 8, 8, 8, 8, 8, 8, 8, 8, 8, 8, 8, 8, 8, 8, 8, 8, 8, 8, 8, 8, 8, 8, 8, 8, 8, 8, 8, 8, 8, 8, 8, 8, 8, 8, 8, 8, 8, 8, 8, 8, 8, 8, 8, 8, 8, 8, 8, 8, 8, 8, 8, 8, 8, 8, 8, 8, 8, 8, 8, 8, 8, 8, 8, 8, 8, 8, 8, 8, 8, 8, 8, 8, 8, 8, 8, 8, 8, 8, 8, 8, 8, 8, 8, 8, 8, 8, 8, 8, 8, 8, 8, 8, 8, 8] : List UInt8) (Int.toNat x4) 0).toNat : Int);
     let x6 := IntKind.wrap .i64 x5;
     let x7 := IntKind.wrap .i64 (16 + x6);
     .leaf x7))))
   (
    let x2 := decide (a0 ≥ 256);
    .ask x2
    (
     .skip (
     let x3 := Int.fdiv a0 (2 ^ (min (Int.toNat 8) (IntKind.bits .u64)));
     let x4 := IntKind.wrap .u8 x3;
     .need ((decide (0 ≤ x4) && decide (x4 < ((List.length [0, 1, 2, 2, 3, 3, 3, 3, 4, 4, 4, 4, 4, 4, 4, 4, 5, 5, 5, 5, 5, 5, 5, 5, 5, 5, 5, 5, 5, 5, 5, 5, 6, 6, 6, 6, 6, 6, 6, 6, 6, 6, 6, 6, 6, 6, 6, 6, 6, 6, 6, 6, 6, 6, 6, 6, 6, 6, 6, 6, 6, 6, 6, 6, 7, 7, 7, 7, 7, 7, 7, 7, 7, 7, 7, 7, 7, 7, 7, 7, 7, 7, 7, 7, 7, 7, 7, 7, 7, 7, 7, 7, 7, 7, 7, 7, 7, 7, 7, 7, 7, 7, 7, 7, 7, 7, 7, 7, 7, 7, 7, 7, 7, 7, 7, 7, 7, 7, 7, 7, 7, 7, 7, 7, 7, 7, 7, 7, 8, 8, 8, 8, 8, 8, 8, 8, 8, 8, 8, 8, 8, 8, 8, 8, 8, 8, 8, 8, 8, 8, 8, 8, 8, 8, 8, 8, 8, 8, 8, 8, 8, 8, 8, 8, 8, 8, 8, 8, 8, 8, 8, 8, 8, 8, 8, 8, 8, 8, 8, 8, 8, 8, 8, 8, 8, 8, 8, 8, 8, 8, 8, 8, 8, 8, 8, 8, 8, 8, 8, 8, 8, 8, 8, 8, 8, 8, 8, 8, 8, 8, 8, 8, 8, 8, 8, 8, 8, 8, 8, 8, 8, 8, 8, 8, 8, 8, 8, 8, 8, 8, 8, 8, 8, 8, 8, 8, 8, 8, 8, 8, 8, 8, 8, 8, 8, 8, 8, 8, 8, 8, 8, 8, 8, 8, 8, 8] : Nat) : Int)))) (
     let x5 := ((List.getD ([0, 1, 2, 2, 3, 3, 3, 3, 4, 4, 4, 4, 4, 4, 4, 4, 5, 5, 5, 5, 5, 5, 5, 5, 5, 5, 5, 5, 5, 5, 5, 5, 6, 6, 6, 6, 6, 6, 6, 6, 6, 6, 6, 6, 6, 6, 6, 6, 6, 6, 6, 6, 6, 6, 6, 6, 6, 6, 6, 6, 6, 6, 6, 6, 7, 7, 7, 7, 7, 7, 7, 7, 7, 7, 7, 7, 7, 7, 7, 7, 7, 7, 7, 7, 7, 7, 7, 7, 7, 7, 7, 7, 7, 7, 7, 7, 7, 7, 7, 7, 7, 7, 7, 7, 7, 7, 7, 7, 7, 7, 7, 7, 7, 7, 7, 7, 7, 7, 7, 7, 7, 7, 7, 7, 7, 7, 7, 7, 8, 8, 8, 8, 8, 8, 8, 8, 8, 8, 8, 8, 8, 8, 8, 8, 8, 8, 8, 8, 8, 8, 8, 8, 8, 8, 8, 8, 8, 8, 8, 8, 8, 8, 8, 8, 8, 8, 8, 8, 8, 8, 8, 8, 8, 8, 8, 8, 8, 8, 8, 8, 8, 8, 8, 8, 8, 8, 8, 8, 8, 8, 8, 8, 8, 8, 8, 8, 8, 8, 8, 8, 8, 8, 8, 8, 8, 8, 8, 8, 8, 8, 8, 8, 8, 8, 8, 8, 8, 8, 8, 8, 8, 8, 8, 8, 8, 8, 8, 8, 8, 8, 8, 8, 8, 8, 8, 8, 8, 8, 8, 8, 8, 8, 8, 8, 8, 8, 8, 8, 8, 8, 8, 8, 8, 8, 8, 8] : List UInt8) (Int.toNat x4) 0).toNat : Int);
     let x6 := IntKind.wrap .i64 x5;
     let x7 := IntKind.wrap .i64 (8 + x6);
     .leaf x7)))
    (
     let x3 := IntKind.wrap .u8 a0;
     .need ((decide (0 ≤ x3) && decide (x3 < ((List.length [0, 1, 2, 2, 3, 3, 3, 3, 4, 4, 4, 4, 4, 4, 4, 4, 5, 5, 5, 5, 5, 5, 5, 5, 5, 5, 5, 5, 5, 5, 5, 5, 6, 6, 6, 6, 6, 6, 6, 6, 6, 6, 6, 6, 6, 6, 6, 6, 6, 6, 6, 6, 6, 6, 6, 6, 6, 6, 6, 6, 6, 6, 6, 6, 7, 7, 7, 7, 7, 7, 7, 7, 7, 7, 7, 7, 7, 7, 7, 7, 7, 7, 7, 7, 7, 7, 7, 7, 7, 7, 7, 7, 7, 7, 7, 7, 7, 7, 7, 7, 7, 7, 7, 7, 7, 7, 7, 7, 7, 7, 7, 7, 7, 7, 7, 7, 7, 7, 7, 7, 7, 7, 7, 7, 7, 7, 7, 7, 8, 8, 8, 8, 8, 8, 8, 8, 8, 8, 8, 8, 8, 8, 8, 8, 8, 8, 8, 8, 8, 8, 8, 8, 8, 8, 8, 8, 8, 8, 8, 8, 8, 8, 8, 8, 8, 8, 8, 8, 8, 8, 8, 8, 8, 8, 8, 8, 8, 8, 8, 8, 8, 8, 8, 8, 8, 8, 8, 8, 8, 8, 8, 8, 8, 8, 8, 8, 8, 8, 8, 8, 8, 8, 8, 8, 8, 8, 8, 8, 8, 8, 8, 8, 8, 8, 8, 8, 8, 8, 8, 8, 8, 8, 8, 8, 8, 8, 8, 8, 8, 8, 8, 8, 8, 8, 8, 8, 8, 8, 8, 8, 8, 8, 8, 8, 8, 8, 8, 8, 8, 8, 8, 8, 8, 8, 8, 8] : Nat) : Int)))) (
     let x4 := ((List.getD ([0, 1, 2, 2, 3, 3, 3, 3, 4, 4, 4, 4, 4, 4, 4, 4, 5, 5, 5, 5, 5, 5, 5, 5, 5, 5, 5, 5, 5, 5, 5, 5, 6, 6, 6, 6, 6, 6, 6, 6, 6, 6, 6, 6, 6, 6, 6, 6, 6, 6, 6, 6, 6, 6, 6, 6, 6, 6, 6, 6, 6, 6, 6, 6, 7, 7, 7, 7, 7, 7, 7, 7, 7, 7, 7, 7, 7, 7, 7, 7, 7, 7, 7, 7, 7, 7, 7, 7, 7, 7, 7, 7, 7, 7, 7, 7, 7, 7, 7, 7, 7, 7, 7, 7, 7, 7, 7, 7, 7, 7, 7, 7, 7, 7, 7, 7, 7, 7, 7, 7, 7, 7, 7, 7, 7, 7, 7, 7, 8, 8, 8, 8, 8, 8, 8, 8, 8, 8, 8, 8, 8, 8, 8, 8, 8, 8, 8, 8, 8, 8, 8, 8, 8, 8, 8, 8, 8, 8, 8, 8, 8, 8, 8, 8, 8, 8, 8, 8, 8, 8, 8, 8, 8, 8, 8, 8, 8, 8, 8, 8, 8, 8, 8, 8, 8, 8, 8, 8, 8, 8, 8, 8, 8, 8, 8, 8, 8, 8, 8, 8, 8, 8, 8, 8, 8, 8, 8, 8, 8, 8, 8, 8, 8, 8, 8, 8, 8, 8, 8, 8, 8, 8, 8, 8, 8, 8, 8, 8, 8, 8, 8, 8, 8, 8, 8, 8, 8, 8, 8, 8, 8, 8, 8, 8, 8, 8, 8, 8, 8, 8, 8, 8, 8, 8, 8, 8] : List UInt8) (Int.toNat x3) 0).toNat : Int);
     let x5 := IntKind.wrap .i64 x4;
     let x6 := IntKind.wrap .i64 (0 + x5);
     .leaf x6))))
def math_bits_Len64 (a0 : Int) : Int := (math_bits_Len64_tree a0).val
def math_bits_Len64_need (a0 : Int) : Bool := (math_bits_Len64_tree a0).ok
def math_bits_Len64_mk (p : Int) : Ret := ⟨.int .i64 p, []⟩
def math_bits_Len64_c : Con := fun args => match args with
  | [.int .u64 a0] => some (.need (math_bits_Len64_need a0) (.leaf (math_bits_Len64_mk (math_bits_Len64 a0))))
  | _ => none
set_option maxRecDepth 100000 in
theorem math_bits_Len64_ok : FunOK Tryz.prog 87 math_bits_Len64_c.fn := by
  refine con_ok (Γ := gam []) (gam_nil) tab_ok (by kernel_rfl) Tryz.func87 (by kernel_rfl) (by kernel_rfl) Tryz.ntmps87 Tryz.results87 (loopsOK_none rfl _) 100000 fun args t h => ?_
  unfold math_bits_Len64_c at h
  split at h
  · rename_i a0
    cases h
    exact ⟨rfl, agree_need (mk := math_bits_Len64_mk) (t := math_bits_Len64_tree a0) (by unfold Agree; kernel_rfl)⟩
  · cases h

/-- internal/strconv.log10Pow2 -/
def internal_strconv_log10Pow2_tree (a0 : Int) : DT (Int) :=
  let x0 := IntKind.wrap .i64 (a0 * 78913);
  .skip (
  let x1 := Int.fdiv x0 (2 ^ (min (Int.toNat 18) (IntKind.bits .i64)));
  .leaf x1)
def internal_strconv_log10Pow2 (a0 : Int) : Int := (internal_strconv_log10Pow2_tree a0).val
def internal_strconv_log10Pow2_mk (p : Int) : Ret := ⟨.int .i64 p, []⟩
def internal_strconv_log10Pow2_c : Con := fun args => match args with
  | [.int .i64 a0] => some (.leaf (internal_strconv_log10Pow2_mk (internal_strconv_log10Pow2 a0)))
  | _ => none
set_option maxRecDepth 100000 in
theorem internal_strconv_log10Pow2_ok : FunOK Tryz.prog 86 internal_strconv_log10Pow2_c.fn := by
  refine con_ok (Γ := gam []) (gam_nil) tab_ok (by kernel_rfl) Tryz.func86 (by kernel_rfl) (by kernel_rfl) Tryz.ntmps86 Tryz.results86 (loopsOK_none rfl _) 100000 fun args t h => ?_
  unfold internal_strconv_log10Pow2_c at h
  split at h
  · rename_i a0
    cases h
    exact ⟨rfl, agree_tot (mk := internal_strconv_log10Pow2_mk) (t := internal_strconv_log10Pow2_tree a0) (by unfold Agree; kernel_rfl) (by kernel_rfl)⟩
  · cases h

/-- internal/strconv.bool2[int] -/
def internal_strconv_bool2_int__tree (a0 : Bool) : DT (Int) :=
  .ask a0
  (
   .leaf 1)
  (
   .leaf 0)
def internal_strconv_bool2_int_ (a0 : Bool) : Int := (internal_strconv_bool2_int__tree a0).val
def internal_strconv_bool2_int__mk (p : Int) : Ret := ⟨.int .i64 p, []⟩
def internal_strconv_bool2_int__c : Con := fun args => match args with
  | [.bool a0] => some (.leaf (internal_strconv_bool2_int__mk (internal_strconv_bool2_int_ a0)))
  | _ => none
set_option maxRecDepth 100000 in
theorem internal_strconv_bool2_int__ok : FunOK Tryz.prog 88 internal_strconv_bool2_int__c.fn := by
  refine con_ok (Γ := gam []) (gam_nil) tab_ok (by kernel_rfl) Tryz.func88 (by kernel_rfl) (by kernel_rfl) Tryz.ntmps88 Tryz.results88 (loopsOK_none rfl _) 100000 fun args t h => ?_
  unfold internal_strconv_bool2_int__c at h
  split at h
  · rename_i a0
    cases h
    exact ⟨rfl, agree_tot (mk := internal_strconv_bool2_int__mk) (t := internal_strconv_bool2_int__tree a0) (by unfold Agree; kernel_rfl) (by kernel_rfl)⟩
  · cases h

-- FAILED 69 internal/strconv.numDigits: global

-- FAILED 70 internal/strconv.formatBase10: mut: results

/-- internal/strconv.isPowerOfTwo -/
def internal_strconv_isPowerOfTwo_tree (a0 : Int) : DT (Bool) :=
  let x0 := IntKind.wrap .i64 (a0 - 1);
  let x1 := IntKind.wrap .i64 (BitVec.ofInt (IntKind.bits .i64) a0 &&& BitVec.ofInt (IntKind.bits .i64) x0).toNat;
  let x2 := (x1 == 0);
  .leaf x2
def internal_strconv_isPowerOfTwo (a0 : Int) : Bool := (internal_strconv_isPowerOfTwo_tree a0).val
def internal_strconv_isPowerOfTwo_mk (p : Bool) : Ret := ⟨.bool p, []⟩
def internal_strconv_isPowerOfTwo_c : Con := fun args => match args with
  | [.int .i64 a0] => some (.leaf (internal_strconv_isPowerOfTwo_mk (internal_strconv_isPowerOfTwo a0)))
  | _ => none
set_option maxRecDepth 100000 in
theorem internal_strconv_isPowerOfTwo_ok : FunOK Tryz.prog 89 internal_strconv_isPowerOfTwo_c.fn := by
  refine con_ok (Γ := gam []) (gam_nil) tab_ok (by kernel_rfl) Tryz.func89 (by kernel_rfl) (by kernel_rfl) Tryz.ntmps89 Tryz.results89 (loopsOK_none rfl _) 100000 fun args t h => ?_
  unfold internal_strconv_isPowerOfTwo_c at h
  split at h
  · rename_i a0
    cases h
    exact ⟨rfl, agree_tot (mk := internal_strconv_isPowerOfTwo_mk) (t := internal_strconv_isPowerOfTwo_tree a0) (by unfold Agree; kernel_rfl) (by kernel_rfl)⟩
  · cases h

-- FAILED 100 math/bits.TrailingZeros32: global

-- FAILED 101 math/bits.TrailingZeros64: global

-- FAILED 90 math/bits.TrailingZeros: no contract: math/bits.TrailingZeros64 

-- FAILED 71 internal/strconv.formatBits: operation

-- FAILED 57 internal/strconv.FormatInt: no contract: internal/strconv.numDigits 

/-- math/bits.Mul32 -/
def math_bits_Mul32_tree (a0 : Int) (a1 : Int) : DT (Int × Int) :=
  let x0 := IntKind.wrap .u64 a0;
  let x1 := IntKind.wrap .u64 a1;
  let x2 := IntKind.wrap .u64 (x0 * x1);
  .skip (
  let x3 := Int.fdiv x2 (2 ^ (min (Int.toNat 32) (IntKind.bits .u64)));
  let x4 := IntKind.wrap .u32 x3;
  let x5 := IntKind.wrap .u32 x2;
  .leaf (x4, x5))
def math_bits_Mul32 (a0 : Int) (a1 : Int) : Int × Int := (math_bits_Mul32_tree a0 a1).val
def math_bits_Mul32_mk (p : Int × Int) : Ret := ⟨.tup [.int .u32 p.1, .int .u32 p.2], []⟩
def math_bits_Mul32_c : Con := fun args => match args with
  | [.int .u32 a0, .int .u32 a1] => some (.leaf (math_bits_Mul32_mk (math_bits_Mul32 a0 a1)))
  | _ => none
set_option maxRecDepth 100000 in
theorem math_bits_Mul32_ok : FunOK Tryz.prog 72 math_bits_Mul32_c.fn := by
  refine con_ok (Γ := gam []) (gam_nil) tab_ok (by kernel_rfl) Tryz.func72 (by kernel_rfl) (by kernel_rfl) Tryz.ntmps72 Tryz.results72 (loopsOK_none rfl _) 100000 fun args t h => ?_
  unfold math_bits_Mul32_c at h
  split at h
  · rename_i a0 a1
    cases h
    exact ⟨rfl, agree_tot (mk := math_bits_Mul32_mk) (t := math_bits_Mul32_tree a0 a1) (by unfold Agree; kernel_rfl) (by kernel_rfl)⟩
  · cases h

/-- math/bits.Mul64 -/
def math_bits_Mul64_tree (a0 : Int) (a1 : Int) : DT (Int × Int) :=
  let x0 := IntKind.wrap .u64 (BitVec.ofInt (IntKind.bits .u64) a0 &&& BitVec.ofInt (IntKind.bits .u64) 4294967295).toNat;
  .skip (
  let x1 := Int.fdiv a0 (2 ^ (min (Int.toNat 32) (IntKind.bits .u64)));
  let x2 := IntKind.wrap .u64 (BitVec.ofInt (IntKind.bits .u64) a1 &&& BitVec.ofInt (IntKind.bits .u64) 4294967295).toNat;
  .skip (
  let x3 := Int.fdiv a1 (2 ^ (min (Int.toNat 32) (IntKind.bits .u64)));
  let x4 := IntKind.wrap .u64 (x0 * x2);
  let x5 := IntKind.wrap .u64 (x1 * x2);
  .skip (
  let x6 := Int.fdiv x4 (2 ^ (min (Int.toNat 32) (IntKind.bits .u64)));
  let x7 := IntKind.wrap .u64 (x5 + x6);
  let x8 := IntKind.wrap .u64 (BitVec.ofInt (IntKind.bits .u64) x7 &&& BitVec.ofInt (IntKind.bits .u64) 4294967295).toNat;
  .skip (
  let x9 := Int.fdiv x7 (2 ^ (min (Int.toNat 32) (IntKind.bits .u64)));
  let x10 := IntKind.wrap .u64 (x0 * x3);
  let x11 := IntKind.wrap .u64 (x8 + x10);
  let x12 := IntKind.wrap .u64 (x1 * x3);
  let x13 := IntKind.wrap .u64 (x12 + x9);
  .skip (
  let x14 := Int.fdiv x11 (2 ^ (min (Int.toNat 32) (IntKind.bits .u64)));
  let x15 := IntKind.wrap .u64 (x13 + x14);
  let x16 := IntKind.wrap .u64 (a0 * a1);
  .leaf (x15, x16))))))
def math_bits_Mul64 (a0 : Int) (a1 : Int) : Int × Int := (math_bits_Mul64_tree a0 a1).val
def math_bits_Mul64_mk (p : Int × Int) : Ret := ⟨.tup [.int .u64 p.1, .int .u64 p.2], []⟩
def math_bits_Mul64_c : Con := fun args => match args with
  | [.int .u64 a0, .int .u64 a1] => some (.leaf (math_bits_Mul64_mk (math_bits_Mul64 a0 a1)))
  | _ => none
set_option maxRecDepth 100000 in
theorem math_bits_Mul64_ok : FunOK Tryz.prog 73 math_bits_Mul64_c.fn := by
  refine con_ok (Γ := gam []) (gam_nil) tab_ok (by kernel_rfl) Tryz.func73 (by kernel_rfl) (by kernel_rfl) Tryz.ntmps73 Tryz.results73 (loopsOK_none rfl _) 100000 fun args t h => ?_
  unfold math_bits_Mul64_c at h
  split at h
  · rename_i a0 a1
    cases h
    exact ⟨rfl, agree_tot (mk := math_bits_Mul64_mk) (t := math_bits_Mul64_tree a0 a1) (by unfold Agree; kernel_rfl) (by kernel_rfl)⟩
  · cases h

/-- math/bits.Mul -/
def math_bits_Mul_tree (a0 : Int) (a1 : Int) : DT (Int × Int) :=
  let x0 := math_bits_Mul64 a0 a1;
  .leaf (x0.1, x0.2)
def math_bits_Mul (a0 : Int) (a1 : Int) : Int × Int := (math_bits_Mul_tree a0 a1).val
def math_bits_Mul_mk (p : Int × Int) : Ret := ⟨.tup [.int .u64 p.1, .int .u64 p.2], []⟩
def math_bits_Mul_c : Con := fun args => match args with
  | [.int .u64 a0, .int .u64 a1] => some (.leaf (math_bits_Mul_mk (math_bits_Mul a0 a1)))
  | _ => none
set_option maxRecDepth 100000 in
theorem math_bits_Mul_ok : FunOK Tryz.prog 58 math_bits_Mul_c.fn := by
  refine con_ok (Γ := gam [(73, math_bits_Mul64_c)]) (gam_cons math_bits_Mul64_ok (gam_nil)) tab_ok (by kernel_rfl) Tryz.func58 (by kernel_rfl) (by kernel_rfl) Tryz.ntmps58 Tryz.results58 (loopsOK_none rfl _) 100000 fun args t h => ?_
  unfold math_bits_Mul_c at h
  split at h
  · rename_i a0 a1
    cases h
    exact ⟨rfl, agree_tot (mk := math_bits_Mul_mk) (t := math_bits_Mul_tree a0 a1) (by unfold Agree; kernel_rfl) (by kernel_rfl)⟩
  · cases h

/-- internal/stringslite.HasPrefix -/
def internal_stringslite_HasPrefix_tree (a0 : (List UInt8)) (a1 : (List UInt8)) : DT (Bool) :=
  let x0 := ((List.length a0 : Nat) : Int);
  let x1 := ((List.length a1 : Nat) : Int);
  let x2 := decide (x0 ≥ x1);
  .ask x2
  (
   let x3 := ((List.length a1 : Nat) : Int);
   .need ((decide (0 ≤ x3) && decide (x3 ≤ ((List.length a0 : Nat) : Int)))) (
   let x4 := List.drop 0 (List.take (Int.toNat x3) a0);
   let x5 := (x4 == a1);
   .leaf x5))
  (
   .leaf false)
def internal_stringslite_HasPrefix (a0 : (List UInt8)) (a1 : (List UInt8)) : Bool := (internal_stringslite_HasPrefix_tree a0 a1).val
def internal_stringslite_HasPrefix_need (a0 : (List UInt8)) (a1 : (List UInt8)) : Bool := (internal_stringslite_HasPrefix_tree a0 a1).ok
def internal_stringslite_HasPrefix_mk (p : Bool) : Ret := ⟨.bool p, []⟩
def internal_stringslite_HasPrefix_c : Con := fun args => match args with
  | [.str a0, .str a1] => some (.need (internal_stringslite_HasPrefix_need a0 a1) (.leaf (internal_stringslite_HasPrefix_mk (internal_stringslite_HasPrefix a0 a1))))
  | _ => none
set_option maxRecDepth 100000 in
theorem internal_stringslite_HasPrefix_ok : FunOK Tryz.prog 74 internal_stringslite_HasPrefix_c.fn := by
  refine con_ok (Γ := gam []) (gam_nil) tab_ok (by kernel_rfl) Tryz.func74 (by kernel_rfl) (by kernel_rfl) Tryz.ntmps74 Tryz.results74 (loopsOK_none rfl _) 100000 fun args t h => ?_
  unfold internal_stringslite_HasPrefix_c at h
  split at h
  · rename_i a0 a1
    cases h
    exact ⟨rfl, agree_need (mk := internal_stringslite_HasPrefix_mk) (t := internal_stringslite_HasPrefix_tree a0 a1) (by unfold Agree; kernel_rfl)⟩
  · cases h

/-- strings.HasPrefix -/
def strings_HasPrefix_tree (a0 : (List UInt8)) (a1 : (List UInt8)) : DT (Bool) :=
  .need ((internal_stringslite_HasPrefix_need a0 a1)) (
  let x0 := internal_stringslite_HasPrefix a0 a1;
  .leaf x0)
def strings_HasPrefix (a0 : (List UInt8)) (a1 : (List UInt8)) : Bool := (strings_HasPrefix_tree a0 a1).val
def strings_HasPrefix_need (a0 : (List UInt8)) (a1 : (List UInt8)) : Bool := (strings_HasPrefix_tree a0 a1).ok
def strings_HasPrefix_mk (p : Bool) : Ret := ⟨.bool p, []⟩
def strings_HasPrefix_c : Con := fun args => match args with
  | [.str a0, .str a1] => some (.need (strings_HasPrefix_need a0 a1) (.leaf (strings_HasPrefix_mk (strings_HasPrefix a0 a1))))
  | _ => none
set_option maxRecDepth 100000 in
theorem strings_HasPrefix_ok : FunOK Tryz.prog 59 strings_HasPrefix_c.fn := by
  refine con_ok (Γ := gam [(74, internal_stringslite_HasPrefix_c)]) (gam_cons internal_stringslite_HasPrefix_ok (gam_nil)) tab_ok (by kernel_rfl) Tryz.func59 (by kernel_rfl) (by kernel_rfl) Tryz.ntmps59 Tryz.results59 (loopsOK_none rfl _) 100000 fun args t h => ?_
  unfold strings_HasPrefix_c at h
  split at h
  · rename_i a0 a1
    cases h
    exact ⟨rfl, agree_need (mk := strings_HasPrefix_mk) (t := strings_HasPrefix_tree a0 a1) (by unfold Agree; kernel_rfl)⟩
  · cases h

-- FAILED 91 internal/abi.NoEscape: no body

-- FAILED 75 (*strings.Builder).copyCheck: box cell

-- FAILED 92 internal/bytealg.MakeNoZero: no body

-- FAILED 76 (*strings.Builder).grow: box cell

-- FAILED 60 (*strings.Builder).Grow: box cell

-- FAILED 61 (*strings.Builder).WriteString: box cell

-- FAILED 62 (*strings.Builder).Len: box cell

-- FAILED 63 (*strings.Builder).String: box cell

/-- loop.example/g01284/impl.digits -/
def impl_digits_tree (a0 : Nat) : DT ((List UInt8)) :=
  .need ((impl_BitsOf_need a0)) (
  let x0 := impl_BitsOf a0;
  .need ((decide (0 ≤ x0) && decide (x0 ≤ 9223372036854775807))) (
  let x1 := hexText (Int.toNat x0);
  let x2 := ((List.length x1 : Nat) : Int);
  let x3 := IntKind.wrap .i64 (8 - x2);
  .need ((decide (0 ≤ x3) && decide (x3 ≤ 9223372036854775807) && decide (List.length [48] * Int.toNat x3 ≤ 140737488355328))) (
  let x4 := Go.Lib.repeatL [48] (Int.toNat x3);
  .need ((decide (List.length x4 + List.length x1 ≤ 9223372036854775807))) (
  let x5 := x4 ++ x1;
  .leaf x5))))
def impl_digits (a0 : Nat) : (List UInt8) := (impl_digits_tree a0).val
def impl_digits_need (a0 : Nat) : Bool := (impl_digits_tree a0).ok
def impl_digits_mk (p : (List UInt8)) : Ret := ⟨.str p, []⟩
def impl_digits_c : Con := fun args => match args with
  | [.flt .f32 a0] => some (.need (impl_digits_need a0) (.leaf (impl_digits_mk (impl_digits a0))))
  | _ => none
set_option maxRecDepth 100000 in
theorem impl_digits_ok : FunOK Tryz.prog 38 impl_digits_c.fn := by
  refine con_ok (Γ := gam [(50, impl_BitsOf_c), (49, strconv_FormatInt_c), (51, strings_Repeat_c)]) (gam_cons impl_BitsOf_ok (gam_cons strconv_FormatInt_ok (gam_cons strings_Repeat_ok (gam_nil)))) tab_ok (by kernel_rfl) Tryz.func38 (by kernel_rfl) (by kernel_rfl) Tryz.ntmps38 Tryz.results38 (loopsOK_none rfl _) 100000 fun args t h => ?_
  unfold impl_digits_c at h
  split at h
  · rename_i a0
    cases h
    exact ⟨rfl, agree_need (mk := impl_digits_mk) (t := impl_digits_tree a0) (by unfold Agree; kernel_rfl)⟩
  · cases h

end
end Go.Proofs.YtacelaaifaffpaaGreatDoor
