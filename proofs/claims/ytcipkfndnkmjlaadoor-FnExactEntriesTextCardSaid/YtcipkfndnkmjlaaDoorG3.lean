/- THE WALK, BY A PROGRAM: typed functions, and that the code is they. -/
import Derived.Test.YtcipkfndnkmjlaaDoorTab
namespace Go.Proofs.YtcipkfndnkmjlaaDoor
set_option linter.unusedVariables false
set_option linter.unusedSimpArgs false
open Go.Extern
noncomputable section

set_option maxRecDepth 100000 in
theorem math_Float32bits_ok : FunOK Tryd.prog 144 math_Float32bits_c.fn := bits32_ok (run_callFunc_extern Tryd.func144 (by kernel_rfl) (by kernel_rfl) (by kernel_rfl) (by kernel_rfl))

set_option maxRecDepth 100000 in
theorem math_Float64bits_ok : FunOK Tryd.prog 185 math_Float64bits_c.fn := bits64_ok (run_callFunc_extern Tryd.func185 (by kernel_rfl) (by kernel_rfl) (by kernel_rfl) (by kernel_rfl))

set_option maxRecDepth 100000 in
theorem math_Float64frombits_ok : FunOK Tryd.prog 184 math_Float64frombits_c.fn := frombits64_ok (run_callFunc_extern Tryd.func184 (by kernel_rfl) (by kernel_rfl) (by kernel_rfl) (by kernel_rfl))

/-- loop.example/g01284/laws.toVector -/
def laws_toVector_tree (a0 : Vec) : DT (Vec) :=
  .leaf ((⟨a0.X, a0.Y, a0.Z⟩ : Vec))
def laws_toVector (a0 : Vec) : Vec := (laws_toVector_tree a0).val
def laws_toVector_mk (p : Vec) : Ret := ⟨.agg [.flt .f32 p.X, .flt .f32 p.Y, .flt .f32 p.Z], []⟩
def laws_toVector_c : Con := fun args => match args with
  | [.agg [.flt .f32 a0_0, .flt .f32 a0_1, .flt .f32 a0_2]] => some (.leaf (laws_toVector_mk (laws_toVector (⟨a0_0, a0_1, a0_2⟩ : Vec))))
  | _ => none
set_option maxRecDepth 100000 in
theorem laws_toVector_ok : FunOK Tryd.prog 14 laws_toVector_c.fn := by
  refine con_ok (Γ := gam []) (gam_nil) tab_ok (by kernel_rfl) Tryd.func14 (by kernel_rfl) (by kernel_rfl) Tryd.ntmps14 Tryd.results14 (loopsOK_none rfl _) 100000 fun args t h => ?_
  unfold laws_toVector_c at h
  split at h
  · rename_i a0_0 a0_1 a0_2
    cases h
    exact ⟨rfl, agree_tot (mk := laws_toVector_mk) (t := laws_toVector_tree (⟨a0_0, a0_1, a0_2⟩ : Vec)) (by unfold Agree; kernel_rfl) (by kernel_rfl)⟩
  · cases h

/-- loop.example/g01284/spec.l01Bits -/
def spec_l01Bits_tree (a0 : Nat) : DT (Int) :=
  let x0 := fne .f32 a0 a0;
  .ask x0
  (
   .leaf 2143289344)
  (
   .need ((!isNaN .f32 a0)) (
   let x1 := IntKind.wrap .i64 ((a0 : Nat) : Int);
   .leaf x1))
def spec_l01Bits (a0 : Nat) : Int := (spec_l01Bits_tree a0).val
def spec_l01Bits_need (a0 : Nat) : Bool := (spec_l01Bits_tree a0).ok
def spec_l01Bits_mk (p : Int) : Ret := ⟨.int .i64 p, []⟩
def spec_l01Bits_c : Con := fun args => match args with
  | [.flt .f32 a0] => some (.need (spec_l01Bits_need a0) (.leaf (spec_l01Bits_mk (spec_l01Bits a0))))
  | _ => none
set_option maxRecDepth 100000 in
theorem spec_l01Bits_ok : FunOK Tryd.prog 129 spec_l01Bits_c.fn := by
  refine con_ok (Γ := gam [(144, math_Float32bits_c)]) (gam_cons math_Float32bits_ok (gam_nil)) tab_ok (by kernel_rfl) Tryd.func129 (by kernel_rfl) (by kernel_rfl) Tryd.ntmps129 Tryd.results129 (loopsOK_none rfl _) 100000 fun args t h => ?_
  unfold spec_l01Bits_c at h
  split at h
  · rename_i a0
    cases h
    exact ⟨rfl, agree_need (mk := spec_l01Bits_mk) (t := spec_l01Bits_tree a0) (by unfold Agree; kernel_rfl)⟩
  · cases h

/-- loop.example/g01284/spec.l01Hex -/
def spec_l01Hex_tree (a0 : Nat) : DT ((List UInt8)) :=
  .need ((spec_l01Bits_need a0)) (
  let x0 := spec_l01Bits a0;
  .skip (
  .skip (
  let x1 := Int.fdiv x0 (2 ^ (min (Int.toNat 28) (IntKind.bits .i64)));
  let x2 := IntKind.wrap .i64 (BitVec.ofInt (IntKind.bits .i64) x1 &&& BitVec.ofInt (IntKind.bits .i64) 15).toNat;
  .need ((decide (0 ≤ x2) && decide (x2 < ((List.length [48, 49, 50, 51, 52, 53, 54, 55, 56, 57, 97, 98, 99, 100, 101, 102] : Nat) : Int)))) (
  let x3 := ((List.getD ([48, 49, 50, 51, 52, 53, 54, 55, 56, 57, 97, 98, 99, 100, 101, 102] : List UInt8) (Int.toNat x2) 0).toNat : Int);
  .skip (
  let x4 := ([] : List Int) ++ [x3];
  .skip (
  .skip (
  let x5 := Int.fdiv x0 (2 ^ (min (Int.toNat 24) (IntKind.bits .i64)));
  let x6 := IntKind.wrap .i64 (BitVec.ofInt (IntKind.bits .i64) x5 &&& BitVec.ofInt (IntKind.bits .i64) 15).toNat;
  .need ((decide (0 ≤ x6) && decide (x6 < ((List.length [48, 49, 50, 51, 52, 53, 54, 55, 56, 57, 97, 98, 99, 100, 101, 102] : Nat) : Int)))) (
  let x7 := ((List.getD ([48, 49, 50, 51, 52, 53, 54, 55, 56, 57, 97, 98, 99, 100, 101, 102] : List UInt8) (Int.toNat x6) 0).toNat : Int);
  .skip (
  let x8 := x4 ++ [x7];
  .skip (
  .skip (
  let x9 := Int.fdiv x0 (2 ^ (min (Int.toNat 20) (IntKind.bits .i64)));
  let x10 := IntKind.wrap .i64 (BitVec.ofInt (IntKind.bits .i64) x9 &&& BitVec.ofInt (IntKind.bits .i64) 15).toNat;
  .need ((decide (0 ≤ x10) && decide (x10 < ((List.length [48, 49, 50, 51, 52, 53, 54, 55, 56, 57, 97, 98, 99, 100, 101, 102] : Nat) : Int)))) (
  let x11 := ((List.getD ([48, 49, 50, 51, 52, 53, 54, 55, 56, 57, 97, 98, 99, 100, 101, 102] : List UInt8) (Int.toNat x10) 0).toNat : Int);
  .skip (
  let x12 := x8 ++ [x11];
  .skip (
  .skip (
  let x13 := Int.fdiv x0 (2 ^ (min (Int.toNat 16) (IntKind.bits .i64)));
  let x14 := IntKind.wrap .i64 (BitVec.ofInt (IntKind.bits .i64) x13 &&& BitVec.ofInt (IntKind.bits .i64) 15).toNat;
  .need ((decide (0 ≤ x14) && decide (x14 < ((List.length [48, 49, 50, 51, 52, 53, 54, 55, 56, 57, 97, 98, 99, 100, 101, 102] : Nat) : Int)))) (
  let x15 := ((List.getD ([48, 49, 50, 51, 52, 53, 54, 55, 56, 57, 97, 98, 99, 100, 101, 102] : List UInt8) (Int.toNat x14) 0).toNat : Int);
  .skip (
  let x16 := x12 ++ [x15];
  .skip (
  .skip (
  let x17 := Int.fdiv x0 (2 ^ (min (Int.toNat 12) (IntKind.bits .i64)));
  let x18 := IntKind.wrap .i64 (BitVec.ofInt (IntKind.bits .i64) x17 &&& BitVec.ofInt (IntKind.bits .i64) 15).toNat;
  .need ((decide (0 ≤ x18) && decide (x18 < ((List.length [48, 49, 50, 51, 52, 53, 54, 55, 56, 57, 97, 98, 99, 100, 101, 102] : Nat) : Int)))) (
  let x19 := ((List.getD ([48, 49, 50, 51, 52, 53, 54, 55, 56, 57, 97, 98, 99, 100, 101, 102] : List UInt8) (Int.toNat x18) 0).toNat : Int);
  .skip (
  let x20 := x16 ++ [x19];
  .skip (
  .skip (
  let x21 := Int.fdiv x0 (2 ^ (min (Int.toNat 8) (IntKind.bits .i64)));
  let x22 := IntKind.wrap .i64 (BitVec.ofInt (IntKind.bits .i64) x21 &&& BitVec.ofInt (IntKind.bits .i64) 15).toNat;
  .need ((decide (0 ≤ x22) && decide (x22 < ((List.length [48, 49, 50, 51, 52, 53, 54, 55, 56, 57, 97, 98, 99, 100, 101, 102] : Nat) : Int)))) (
  let x23 := ((List.getD ([48, 49, 50, 51, 52, 53, 54, 55, 56, 57, 97, 98, 99, 100, 101, 102] : List UInt8) (Int.toNat x22) 0).toNat : Int);
  .skip (
  let x24 := x20 ++ [x23];
  .skip (
  .skip (
  let x25 := Int.fdiv x0 (2 ^ (min (Int.toNat 4) (IntKind.bits .i64)));
  let x26 := IntKind.wrap .i64 (BitVec.ofInt (IntKind.bits .i64) x25 &&& BitVec.ofInt (IntKind.bits .i64) 15).toNat;
  .need ((decide (0 ≤ x26) && decide (x26 < ((List.length [48, 49, 50, 51, 52, 53, 54, 55, 56, 57, 97, 98, 99, 100, 101, 102] : Nat) : Int)))) (
  let x27 := ((List.getD ([48, 49, 50, 51, 52, 53, 54, 55, 56, 57, 97, 98, 99, 100, 101, 102] : List UInt8) (Int.toNat x26) 0).toNat : Int);
  .skip (
  let x28 := x24 ++ [x27];
  .skip (
  .skip (
  let x29 := Int.fdiv x0 (2 ^ (min (Int.toNat 0) (IntKind.bits .i64)));
  let x30 := IntKind.wrap .i64 (BitVec.ofInt (IntKind.bits .i64) x29 &&& BitVec.ofInt (IntKind.bits .i64) 15).toNat;
  .need ((decide (0 ≤ x30) && decide (x30 < ((List.length [48, 49, 50, 51, 52, 53, 54, 55, 56, 57, 97, 98, 99, 100, 101, 102] : Nat) : Int)))) (
  let x31 := ((List.getD ([48, 49, 50, 51, 52, 53, 54, 55, 56, 57, 97, 98, 99, 100, 101, 102] : List UInt8) (Int.toNat x30) 0).toNat : Int);
  .skip (
  let x32 := x28 ++ [x31];
  .skip (
  let x33 := strOf x32;
  .leaf x33))))))))))))))))))))))))))))))))))
def spec_l01Hex (a0 : Nat) : (List UInt8) := (spec_l01Hex_tree a0).val
def spec_l01Hex_need (a0 : Nat) : Bool := (spec_l01Hex_tree a0).ok
def spec_l01Hex_mk (p : (List UInt8)) : Ret := ⟨.str p, []⟩
def spec_l01Hex_c : Con := fun args => match args with
  | [.flt .f32 a0] => some (.need (spec_l01Hex_need a0) (.leaf (spec_l01Hex_mk (spec_l01Hex a0))))
  | _ => none
set_option maxRecDepth 100000 in
theorem spec_l01Hex_ok : FunOK Tryd.prog 98 spec_l01Hex_c.fn := by
  refine con_ok (Γ := gam [(129, spec_l01Bits_c)]) (gam_cons spec_l01Bits_ok (gam_nil)) tab_ok (by kernel_rfl) Tryd.func98 (by kernel_rfl) (by kernel_rfl) Tryd.ntmps98 Tryd.results98 (loopsOK_none rfl _) 100000 fun args t h => ?_
  unfold spec_l01Hex_c at h
  split at h
  · rename_i a0
    cases h
    exact ⟨rfl, agree_need (mk := spec_l01Hex_mk) (t := spec_l01Hex_tree a0) (by unfold Agree; kernel_rfl)⟩
  · cases h

/-- a loop of spec_l01NText -/
def spec_l01NText_loop0_step (p : List Nat) (s : (List UInt8) × Int) : Round ((List UInt8) × Int) ((List UInt8)) :=
  let x0 := ((List.length p : Nat) : Int);
  let x1 := decide (s.2 < x0);
  .ask x1
  (
   .need ((decide (0 ≤ s.2) && decide (s.2 < ((List.length p : Nat) : Int)))) (
   let x2 := List.getD p (Int.toNat s.2) default;
   .need ((spec_l01Hex_need x2)) (
   let x3 := spec_l01Hex x2;
   .need ((decide (List.length [44] + List.length x3 ≤ 9223372036854775807))) (
   let x4 := [44] ++ x3;
   .need ((decide (List.length s.1 + List.length x4 ≤ 9223372036854775807))) (
   let x5 := s.1 ++ x4;
   let x6 := IntKind.wrap .i64 (s.2 + 1);
   .leaf (.inl (x5, x6), []))))))
  (
   .leaf (.inr s.1, []))
def spec_l01NText_loop0_L (p : List Nat) : LoopS ((List UInt8) × Int) ((List UInt8)) := { tl := fun s => [.vslc 1 (.flt .f32) p, .junk, .junk, .str s.1, .int .i64 s.2], hl := fun s => [], ex := fun r => .exit 0, otl := fun r => [.junk, .junk, .junk, .str r], ohl := fun r => [] }
def spec_l01NText_loop0_ext : St → Option ((List Nat) × ((List UInt8) × Int) × List Nat) := fun S => match (S.tm 0).unK, (S.tm 3).unK, (S.tm 4).unK with
  | .vslc 1 (.flt .f32) q0, .str q1, .int .i64 q2 => some (q0, (q1, q2), [])
  | _, _, _ => none
def spec_l01NText_loop0_post (p : List Nat) (r : (List UInt8)) : DT (Ex × St) := .leaf (.exit 0, LSt [.junk, .junk, .junk, .str r] [])
def spec_l01NText_loop0 (p : List Nat) (s : (List UInt8) × Int) : (List UInt8) := loopVal (spec_l01NText_loop0_step p) s
def spec_l01NText_loop0_ends (p : List Nat) (s : (List UInt8) × Int) : Bool := loopEnds (spec_l01NText_loop0_step p) s
def spec_l01NText_loop0_F : LoopF := loopF spec_l01NText_loop0_step spec_l01NText_loop0_ext spec_l01NText_loop0_post
theorem spec_l01NText_loop0_hext : ∀ S p s fl, spec_l01NText_loop0_ext S = some (p, s, fl) → Norm S fl ((spec_l01NText_loop0_L p).tl s) ((spec_l01NText_loop0_L p).hl s) (spec_l01NText_loop0_L p).gl := by
  intro S p s fl h
  unfold spec_l01NText_loop0_ext at h
  (repeat' split at h) <;> first
    | (cases h; constructor <;> simp_all [spec_l01NText_loop0_L, keepT, keepH, rens, renH, PV.ren, Blk.ren, fOf, lget, nodup, natIn, lenEq, gtm, PV.unK])
    | cases h
theorem spec_l01NText_loop0_hpost : ∀ p r e S', (spec_l01NText_loop0_post p r).get = some (e, S') → e = (spec_l01NText_loop0_L p).ex r ∧ S' = LSt ((spec_l01NText_loop0_L p).otl r) ((spec_l01NText_loop0_L p).ohl r) ((spec_l01NText_loop0_L p).ogl r) := by
  intro p r e S' h
  unfold spec_l01NText_loop0_post at h
  simp only [DT.get, Option.some.injEq, Prod.mk.injEq] at h; exact ⟨h.1.symm, h.2.symm⟩

def spec_l01NText_loops : Nat → Option LoopF := loopTab [(5, spec_l01NText_loop0_F)]
set_option maxRecDepth 100000 in
theorem spec_l01NText_l0 : LoopOK Tryd.prog ⟨gam [(98, spec_l01Hex_c)], tab, 27, spec_l01NText_loops⟩ (lp Tryd.f57 0) :=
  loopOK_some (F := spec_l01NText_loop0_F) (by kernel_rfl) (loopF_ok (E := ⟨gam [(98, spec_l01Hex_c)], tab, 27, spec_l01NText_loops⟩) ⟨gam_cons spec_l01Hex_ok (gam_nil), tab_ok, by kernel_rfl⟩ (fuel := 100000) (loopsOK_list (l := []) (by kernel_rfl) trivial) (L := spec_l01NText_loop0_L) (fun p s => by unfold AgreeL; exact ⟨by kernel_rfl, by kernel_rfl⟩) (fun _ _ h => Ex.noConfusion h) spec_l01NText_loop0_hext spec_l01NText_loop0_hpost)
/-- loop.example/g01284/spec.l01NText -/
def spec_l01NText_tree (a0 : List Nat) : DT ((List UInt8)) :=
  let x0 := ((List.length a0 : Nat) : Int);
  let x1 := (x0 == 0);
  .ask x1
  (
   .leaf ([110, 111, 110, 101]))
  (
   .need ((decide (0 ≤ 0) && decide (0 < ((List.length a0 : Nat) : Int)))) (
   let x2 := List.getD a0 0 default;
   .need ((spec_l01Hex_need x2)) (
   let x3 := spec_l01Hex x2;
   .need ((spec_l01NText_loop0_ends a0 (x3, 1))) (
   let x4 := spec_l01NText_loop0 a0 (x3, 1);
   .leaf x4))))
def spec_l01NText (a0 : List Nat) : (List UInt8) := (spec_l01NText_tree a0).val
def spec_l01NText_need (a0 : List Nat) : Bool := (spec_l01NText_tree a0).ok
def spec_l01NText_mk (p : (List UInt8)) : Ret := ⟨.str p, []⟩
def spec_l01NText_c0 : Con := fun args => match args with
  | [.vslc 1 (.flt .f32) a0] => some (.need (spec_l01NText_need a0) (.leaf (spec_l01NText_mk (spec_l01NText a0))))
  | _ => none
set_option maxRecDepth 100000 in
theorem spec_l01NText_ok0 : FunOK Tryd.prog 57 spec_l01NText_c0.fn := by
  refine con_ok (Γ := gam [(98, spec_l01Hex_c)]) (gam_cons spec_l01Hex_ok (gam_nil)) tab_ok (by kernel_rfl) Tryd.func57 (by kernel_rfl) (by kernel_rfl) Tryd.ntmps57 Tryd.results57 (loops := spec_l01NText_loops) (loopsOK_list (l := [lp Tryd.f57 0]) (by kernel_rfl) ⟨spec_l01NText_l0, trivial⟩) 100000 fun args t h => ?_
  unfold spec_l01NText_c0 at h
  split at h
  · rename_i a0
    cases h
    exact ⟨rfl, agree_need (mk := spec_l01NText_mk) (t := spec_l01NText_tree a0) (by unfold Agree; kernel_rfl)⟩
  · cases h
def spec_l01NText_c : Con := fun args => spec_l01NText_c0 (norms 0 [.slc (.flt .f32)] args)
set_option maxRecDepth 100000 in
theorem spec_l01NText_ok : FunOK Tryd.prog 57 spec_l01NText_c.fn := con_norm [.slc (.flt .f32)] spec_l01NText_ok0

/-- loop.example/g01284/spec.l01VText -/
def spec_l01VText_tree (a0 : Vec) : DT ((List UInt8)) :=
  .need ((spec_l01NText_need ([a0.X, a0.Y, a0.Z]))) (
  let x0 := spec_l01NText ([a0.X, a0.Y, a0.Z]);
  .leaf x0)
def spec_l01VText (a0 : Vec) : (List UInt8) := (spec_l01VText_tree a0).val
def spec_l01VText_need (a0 : Vec) : Bool := (spec_l01VText_tree a0).ok
def spec_l01VText_mk (p : (List UInt8)) : Ret := ⟨.str p, []⟩
def spec_l01VText_c : Con := fun args => match args with
  | [.agg [.flt .f32 a0_0, .flt .f32 a0_1, .flt .f32 a0_2]] => some (.need (spec_l01VText_need (⟨a0_0, a0_1, a0_2⟩ : Vec)) (.leaf (spec_l01VText_mk (spec_l01VText (⟨a0_0, a0_1, a0_2⟩ : Vec)))))
  | _ => none
set_option maxRecDepth 100000 in
theorem spec_l01VText_ok : FunOK Tryd.prog 49 spec_l01VText_c.fn := by
  refine con_ok (Γ := gam [(57, spec_l01NText_c)]) (gam_cons spec_l01NText_ok (gam_nil)) tab_ok (by kernel_rfl) Tryd.func49 (by kernel_rfl) (by kernel_rfl) Tryd.ntmps49 Tryd.results49 (loopsOK_none rfl _) 100000 fun args t h => ?_
  unfold spec_l01VText_c at h
  split at h
  · rename_i a0_0 a0_1 a0_2
    cases h
    exact ⟨rfl, agree_need (mk := spec_l01VText_mk) (t := spec_l01VText_tree (⟨a0_0, a0_1, a0_2⟩ : Vec)) (by unfold Agree; kernel_rfl)⟩
  · cases h

/-- loop.example/g01284/spec.VectorText -/
def spec_VectorText_tree (a0 : Vec) : DT ((List UInt8)) :=
  .need ((spec_l01VText_need (⟨a0.X, a0.Y, a0.Z⟩ : Vec))) (
  let x0 := spec_l01VText (⟨a0.X, a0.Y, a0.Z⟩ : Vec);
  .leaf x0)
def spec_VectorText (a0 : Vec) : (List UInt8) := (spec_VectorText_tree a0).val
def spec_VectorText_need (a0 : Vec) : Bool := (spec_VectorText_tree a0).ok
def spec_VectorText_mk (p : (List UInt8)) : Ret := ⟨.str p, []⟩
def spec_VectorText_c : Con := fun args => match args with
  | [.agg [.flt .f32 a0_0, .flt .f32 a0_1, .flt .f32 a0_2]] => some (.need (spec_VectorText_need (⟨a0_0, a0_1, a0_2⟩ : Vec)) (.leaf (spec_VectorText_mk (spec_VectorText (⟨a0_0, a0_1, a0_2⟩ : Vec)))))
  | _ => none
set_option maxRecDepth 100000 in
theorem spec_VectorText_ok : FunOK Tryd.prog 13 spec_VectorText_c.fn := by
  refine con_ok (Γ := gam [(49, spec_l01VText_c)]) (gam_cons spec_l01VText_ok (gam_nil)) tab_ok (by kernel_rfl) Tryd.func13 (by kernel_rfl) (by kernel_rfl) Tryd.ntmps13 Tryd.results13 (loopsOK_none rfl _) 100000 fun args t h => ?_
  unfold spec_VectorText_c at h
  split at h
  · rename_i a0_0 a0_1 a0_2
    cases h
    exact ⟨rfl, agree_need (mk := spec_VectorText_mk) (t := spec_VectorText_tree (⟨a0_0, a0_1, a0_2⟩ : Vec)) (by unfold Agree; kernel_rfl)⟩
  · cases h

/-- (loop.example/g01284/impl.Vector).numbers -/
def impl_Vector_numbers_tree (a0 : Vec) : DT (List Nat) :=
  .leaf ([a0.X, a0.Y, a0.Z])
def impl_Vector_numbers (a0 : Vec) : List Nat := (impl_Vector_numbers_tree a0).val
def impl_Vector_numbers_mk (p : List Nat) : Ret := ⟨.own 0, [.typed 22 (.flt .f32) p]⟩
def impl_Vector_numbers_c : Con := fun args => match args with
  | [.agg [.flt .f32 a0_0, .flt .f32 a0_1, .flt .f32 a0_2]] => some (.leaf (impl_Vector_numbers_mk (impl_Vector_numbers (⟨a0_0, a0_1, a0_2⟩ : Vec))))
  | _ => none
set_option maxRecDepth 100000 in
theorem impl_Vector_numbers_ok : FunOK Tryd.prog 51 impl_Vector_numbers_c.fn := by
  refine con_ok (Γ := gam []) (gam_nil) tab_ok (by kernel_rfl) Tryd.func51 (by kernel_rfl) (by kernel_rfl) Tryd.ntmps51 Tryd.results51 (loopsOK_none rfl _) 100000 fun args t h => ?_
  unfold impl_Vector_numbers_c at h
  split at h
  · rename_i a0_0 a0_1 a0_2
    cases h
    exact ⟨rfl, agree_tot (mk := impl_Vector_numbers_mk) (t := impl_Vector_numbers_tree (⟨a0_0, a0_1, a0_2⟩ : Vec)) (by unfold Agree; kernel_rfl) (by kernel_rfl)⟩
  · cases h

/-- loop.example/g01284/impl.BitsOf -/
def impl_BitsOf_tree (a0 : Nat) : DT (Int) :=
  let x0 := fne .f32 a0 a0;
  .ask x0
  (
   .leaf 2143289344)
  (
   .need ((!isNaN .f32 a0)) (
   let x1 := IntKind.wrap .i64 ((a0 : Nat) : Int);
   .leaf x1))
def impl_BitsOf (a0 : Nat) : Int := (impl_BitsOf_tree a0).val
def impl_BitsOf_need (a0 : Nat) : Bool := (impl_BitsOf_tree a0).ok
def impl_BitsOf_mk (p : Int) : Ret := ⟨.int .i64 p, []⟩
def impl_BitsOf_c : Con := fun args => match args with
  | [.flt .f32 a0] => some (.need (impl_BitsOf_need a0) (.leaf (impl_BitsOf_mk (impl_BitsOf a0))))
  | _ => none
set_option maxRecDepth 100000 in
theorem impl_BitsOf_ok : FunOK Tryd.prog 124 impl_BitsOf_c.fn := by
  refine con_ok (Γ := gam [(144, math_Float32bits_c)]) (gam_cons math_Float32bits_ok (gam_nil)) tab_ok (by kernel_rfl) Tryd.func124 (by kernel_rfl) (by kernel_rfl) Tryd.ntmps124 Tryd.results124 (loopsOK_none rfl _) 100000 fun args t h => ?_
  unfold impl_BitsOf_c at h
  split at h
  · rename_i a0
    cases h
    exact ⟨rfl, agree_need (mk := impl_BitsOf_mk) (t := impl_BitsOf_tree a0) (by unfold Agree; kernel_rfl)⟩
  · cases h

/-- internal/strconv.small -/
def internal_strconv_small_tree (a0 : Int) : DT ((List UInt8)) :=
  let x0 := decide (a0 < 10);
  .ask x0
  (
   let x1 := IntKind.wrap .i64 (a0 + 1);
   .need ((decide (0 ≤ x1) && decide (x1 ≤ ((List.length [48, 49, 50, 51, 52, 53, 54, 55, 56, 57, 97, 98, 99, 100, 101, 102, 103, 104, 105, 106, 107, 108, 109, 110, 111, 112, 113, 114, 115, 116, 117, 118, 119, 120, 121, 122] : Nat) : Int)))) (
   .need ((decide (0 ≤ a0) && decide (a0 ≤ (((Int.toNat x1) : Nat) : Int)))) (
   let x2 := List.drop (Int.toNat a0) (List.take (Int.toNat x1) [48, 49, 50, 51, 52, 53, 54, 55, 56, 57, 97, 98, 99, 100, 101, 102, 103, 104, 105, 106, 107, 108, 109, 110, 111, 112, 113, 114, 115, 116, 117, 118, 119, 120, 121, 122]);
   .leaf x2)))
  (
   let x1 := IntKind.wrap .i64 (a0 * 2);
   let x2 := IntKind.wrap .i64 (a0 * 2);
   let x3 := IntKind.wrap .i64 (x2 + 2);
   .need ((decide (0 ≤ x3) && decide (x3 ≤ ((List.length [48, 48, 48, 49, 48, 50, 48, 51, 48, 52, 48, 53, 48, 54, 48, 55, 48, 56, 48, 57, 49, 48, 49, 49, 49, 50, 49, 51, 49, 52, 49, 53, 49, 54, 49, 55, 49, 56, 49, 57, 50, 48, 50, 49, 50, 50, 50, 51, 50, 52, 50, 53, 50, 54, 50, 55, 50, 56, 50, 57, 51, 48, 51, 49, 51, 50, 51, 51, 51, 52, 51, 53, 51, 54, 51, 55, 51, 56, 51, 57, 52, 48, 52, 49, 52, 50, 52, 51, 52, 52, 52, 53, 52, 54, 52, 55, 52, 56, 52, 57, 53, 48, 53, 49, 53, 50, 53, 51, 53, 52, 53, 53, 53, 54, 53, 55, 53, 56, 53, 57, 54, 48, 54, 49, 54, 50, 54, 51, 54, 52, 54, 53, 54, 54, 54, 55, 54, 56, 54, 57, 55, 48, 55, 49, 55, 50, 55, 51, 55, 52, 55, 53, 55, 54, 55, 55, 55, 56, 55, 57, 56, 48, 56, 49, 56, 50, 56, 51, 56, 52, 56, 53, 56, 54, 56, 55, 56, 56, 56, 57, 57, 48, 57, 49, 57, 50, 57, 51, 57, 52, 57, 53, 57, 54, 57, 55, 57, 56, 57, 57] : Nat) : Int)))) (
   .need ((decide (0 ≤ x1) && decide (x1 ≤ (((Int.toNat x3) : Nat) : Int)))) (
   let x4 := List.drop (Int.toNat x1) (List.take (Int.toNat x3) [48, 48, 48, 49, 48, 50, 48, 51, 48, 52, 48, 53, 48, 54, 48, 55, 48, 56, 48, 57, 49, 48, 49, 49, 49, 50, 49, 51, 49, 52, 49, 53, 49, 54, 49, 55, 49, 56, 49, 57, 50, 48, 50, 49, 50, 50, 50, 51, 50, 52, 50, 53, 50, 54, 50, 55, 50, 56, 50, 57, 51, 48, 51, 49, 51, 50, 51, 51, 51, 52, 51, 53, 51, 54, 51, 55, 51, 56, 51, 57, 52, 48, 52, 49, 52, 50, 52, 51, 52, 52, 52, 53, 52, 54, 52, 55, 52, 56, 52, 57, 53, 48, 53, 49, 53, 50, 53, 51, 53, 52, 53, 53, 53, 54, 53, 55, 53, 56, 53, 57, 54, 48, 54, 49, 54, 50, 54, 51, 54, 52, 54, 53, 54, 54, 54, 55, 54, 56, 54, 57, 55, 48, 55, 49, 55, 50, 55, 51, 55, 52, 55, 53, 55, 54, 55, 55, 55, 56, 55, 57, 56, 48, 56, 49, 56, 50, 56, 51, 56, 52, 56, 53, 56, 54, 56, 55, 56, 56, 56, 57, 57, 48, 57, 49, 57, 50, 57, 51, 57, 52, 57, 53, 57, 54, 57, 55, 57, 56, 57, 57]);
   .leaf x4)))
def internal_strconv_small (a0 : Int) : (List UInt8) := (internal_strconv_small_tree a0).val
def internal_strconv_small_need (a0 : Int) : Bool := (internal_strconv_small_tree a0).ok
def internal_strconv_small_mk (p : (List UInt8)) : Ret := ⟨.str p, []⟩
def internal_strconv_small_c : Con := fun args => match args with
  | [.int .i64 a0] => some (.need (internal_strconv_small_need a0) (.leaf (internal_strconv_small_mk (internal_strconv_small a0))))
  | _ => none
set_option maxRecDepth 100000 in
theorem internal_strconv_small_ok : FunOK Tryd.prog 157 internal_strconv_small_c.fn := by
  refine con_ok (Γ := gam []) (gam_nil) tab_ok (by kernel_rfl) Tryd.func157 (by kernel_rfl) (by kernel_rfl) Tryd.ntmps157 Tryd.results157 (loopsOK_none rfl _) 100000 fun args t h => ?_
  unfold internal_strconv_small_c at h
  split at h
  · rename_i a0
    cases h
    exact ⟨rfl, agree_need (mk := internal_strconv_small_mk) (t := internal_strconv_small_tree a0) (by unfold Agree; kernel_rfl)⟩
  · cases h

/-- math/bits.Len64 -/
def math_bits_Len64_tree (a0 : Int) : DT (Int) :=
  let x0 := decide (a0 ≥ 4294967296);
  .ask x0
  (
   .skip (
   let x1 := Int.fdiv a0 (2 ^ (min (Int.toNat 32) (IntKind.bits .u64)));
   let x2 := decide (x1 ≥ 65536);
   .ask x2
   (
    .skip (
    let x3 := Int.fdiv x1 (2 ^ (min (Int.toNat 16) (IntKind.bits .u64)));
    let x4 := decide (x3 ≥ 256);
    .ask x4
    (
     .skip (
     let x5 := Int.fdiv x3 (2 ^ (min (Int.toNat 8) (IntKind.bits .u64)));
     let x6 := IntKind.wrap .u8 x5;
     .need ((decide (0 ≤ x6) && decide (x6 < ((List.length [0, 1, 2, 2, 3, 3, 3, 3, 4, 4, 4, 4, 4, 4, 4, 4, 5, 5, 5, 5, 5, 5, 5, 5, 5, 5, 5, 5, 5, 5, 5, 5, 6, 6, 6, 6, 6, 6, 6, 6, 6, 6, 6, 6, 6, 6, 6, 6, 6, 6, 6, 6, 6, 6, 6, 6, 6, 6, 6, 6, 6, 6, 6, 6, 7, 7, 7, 7, 7, 7, 7, 7, 7, 7, 7, 7, 7, 7, 7, 7, 7, 7, 7, 7, 7, 7, 7, 7, 7, 7, 7, 7, 7, 7, 7, 7, 7, 7, 7, 7, 7, 7, 7, 7, 7, 7, 7, 7, 7, 7, 7, 7, 7, 7, 7, 7, 7, 7, 7, 7, 7, 7, 7, 7, 7, 7, 7, 7, 8, 8, 8, 8, 8, 8, 8, 8, 8, 8, 8, 8, 8, 8, 8, 8, 8, 8, 8, 8, 8, 8, 8, 8, 8, 8, 8, 8, 8, 8, 8, 8, 8, 8, 8, 8, 8, 8, 8, 8, 8, 8, 8, 8, 8, 8, 8, 8, 8, 8, 8, 8, 8, 8, 8, 8, 8, 8, 8, 8, 8, 8, 8, 8, 8, 8, 8, 8, 8, 8, 8, 8, 8, 8, 8, 8, 8, 8, 8, 8, 8, 8, 8, 8, 8, 8, 8, 8, 8, 8, 8, 8, 8, 8, 8, 8, 8, 8, 8, 8, 8, 8, 8, 8, 8, 8, 8, 8, 8, 8, 8, 8, 8, 8, 8, 8, 8, 8, 8, 8, 8, 8, 8, 8, 8, 8, 8, 8] : Nat) : Int)))) (
     let x7 := ((List.getD ([0, 1, 2, 2, 3, 3, 3, 3, 4, 4, 4, 4, 4, 4, 4, 4, 5, 5, 5, 5, 5, 5, 5, 5, 5, 5, 5, 5, 5, 5, 5, 5, 6, 6, 6, 6, 6, 6, 6, 6, 6, 6, 6, 6, 6, 6, 6, 6, 6, 6, 6, 6, 6, 6, 6, 6, 6, 6, 6, 6, 6, 6, 6, 6, 7, 7, 7, 7, 7, 7, 7, 7, 7, 7, 7, 7, 7, 7, 7, 7, 7, 7, 7, 7, 7, 7, 7, 7, 7, 7, 7, 7, 7, 7, 7, 7, 7, 7, 7, 7, 7, 7, 7, 7, 7, 7, 7, 7, 7, 7, 7, 7, 7, 7, 7, 7, 7, 7, 7, 7, 7, 7, 7, 7, 7, 7, 7, 7, 8, 8, 8, 8, 8, 8, 8, 8, 8, 8, 8, 8, 8, 8, 8, 8, 8, 8, 8, 8, 8, 8, 8, 8, 8, 8, 8, 8, 8, 8, 8, 8, 8, 8, 8, 8, 8, 8, 8, 8, 8, 8, 8, 8, 8, 8, 8, 8, 8, 8, 8, 8, 8, 8, 8, 8, 8, 8, 8, 8, 8, 8, 8, 8, 8, 8, 8, 8, 8, 8, 8, 8, 8, 8, 8, 8, 8, 8, 8, 8, 8, 8, 8, 8, 8, 8, 8, 8, 8, 8, 8, 8, 8, 8, 8, 8, 8, 8, 8, 8, 8, 8, 8, 8, 8, 8, 8, 8, 8, 8, 8, 8, 8, 8, 8, 8, 8, 8, 8, 8, 8, 8, 8, 8, 8, 8, 8, 8] : List UInt8) (Int.toNat x6) 0).toNat : Int);
     let x8 := IntKind.wrap .i64 x7;
     let x9 := IntKind.wrap .i64 (56 + x8);
     .leaf x9)))
    (
     let x5 := IntKind.wrap .u8 x3;
     .need ((decide (0 ≤ x5) && decide (x5 < ((List.length [0, 1, 2, 2, 3, 3, 3, 3, 4, 4, 4, 4, 4, 4, 4, 4, 5, 5, 5, 5, 5, 5, 5, 5, 5, 5, 5, 5, 5, 5, 5, 5, 6, 6, 6, 6, 6, 6, 6, 6, 6, 6, 6, 6, 6, 6, 6, 6, 6, 6, 6, 6, 6, 6, 6, 6, 6, 6, 6, 6, 6, 6, 6, 6, 7, 7, 7, 7, 7, 7, 7, 7, 7, 7, 7, 7, 7, 7, 7, 7, 7, 7, 7, 7, 7, 7, 7, 7, 7, 7, 7, 7, 7, 7, 7, 7, 7, 7, 7, 7, 7, 7, 7, 7, 7, 7, 7, 7, 7, 7, 7, 7, 7, 7, 7, 7, 7, 7, 7, 7, 7, 7, 7, 7, 7, 7, 7, 7, 8, 8, 8, 8, 8, 8, 8, 8, 8, 8, 8, 8, 8, 8, 8, 8, 8, 8, 8, 8, 8, 8, 8, 8, 8, 8, 8, 8, 8, 8, 8, 8, 8, 8, 8, 8, 8, 8, 8, 8, 8, 8, 8, 8, 8, 8, 8, 8, 8, 8, 8, 8, 8, 8, 8, 8, 8, 8, 8, 8, 8, 8, 8, 8, 8, 8, 8, 8, 8, 8, 8, 8, 8, 8, 8, 8, 8, 8, 8, 8, 8, 8, 8, 8, 8, 8, 8, 8, 8, 8, 8, 8, 8, 8, 8, 8, 8, 8, 8, 8, 8, 8, 8, 8, 8, 8, 8, 8, 8, 8, 8, 8, 8, 8, 8, 8, 8, 8, 8, 8, 8, 8, 8, 8, 8, 8, 8, 8] : Nat) : Int)))) (
     let x6 := ((List.getD ([0, 1, 2, 2, 3, 3, 3, 3, 4, 4, 4, 4, 4, 4, 4, 4, 5, 5, 5, 5, 5, 5, 5, 5, 5, 5, 5, 5, 5, 5, 5, 5, 6, 6, 6, 6, 6, 6, 6, 6, 6, 6, 6, 6, 6, 6, 6, 6, 6, 6, 6, 6, 6, 6, 6, 6, 6, 6, 6, 6, 6, 6, 6, 6, 7, 7, 7, 7, 7, 7, 7, 7, 7, 7, 7, 7, 7, 7, 7, 7, 7, 7, 7, 7, 7, 7, 7, 7, 7, 7, 7, 7, 7, 7, 7, 7, 7, 7, 7, 7, 7, 7, 7, 7, 7, 7, 7, 7, 7, 7, 7, 7, 7, 7, 7, 7, 7, 7, 7, 7, 7, 7, 7, 7, 7, 7, 7, 7, 8, 8, 8, 8, 8, 8, 8, 8, 8, 8, 8, 8, 8, 8, 8, 8, 8, 8, 8, 8, 8, 8, 8, 8, 8, 8, 8, 8, 8, 8, 8, 8, 8, 8, 8, 8, 8, 8, 8, 8, 8, 8, 8, 8, 8, 8, 8, 8, 8, 8, 8, 8, 8, 8, 8, 8, 8, 8, 8, 8, 8, 8, 8, 8, 8, 8, 8, 8, 8, 8, 8, 8, 8, 8, 8, 8, 8, 8, 8, 8, 8, 8, 8, 8, 8, 8, 8, 8, 8, 8, 8, 8, 8, 8, 8, 8, 8, 8, 8, 8, 8, 8, 8, 8, 8, 8, 8, 8, 8, 8, 8, 8, 8, 8, 8, 8, 8, 8, 8, 8, 8, 8, 8, 8, 8, 8, 8, 8] : List UInt8) (Int.toNat x5) 0).toNat : Int);
     let x7 := IntKind.wrap .i64 x6;
     let x8 := IntKind.wrap .i64 (48 + x7);
     .leaf x8))))
   (
    let x3 := decide (x1 ≥ 256);
    .ask x3
    (
     .skip (
     let x4 := Int.fdiv x1 (2 ^ (min (Int.toNat 8) (IntKind.bits .u64)));
     let x5 := IntKind.wrap .u8 x4;
     .need ((decide (0 ≤ x5) && decide (x5 < ((List.length [0, 1, 2, 2, 3, 3, 3, 3, 4, 4, 4, 4, 4, 4, 4, 4, 5, 5, 5, 5, 5, 5, 5, 5, 5, 5, 5, 5, 5, 5, 5, 5, 6, 6, 6, 6, 6, 6, 6, 6, 6, 6, 6, 6, 6, 6, 6, 6, 6, 6, 6, 6, 6, 6, 6, 6, 6, 6, 6, 6, 6, 6, 6, 6, 7, 7, 7, 7, 7, 7, 7, 7, 7, 7, 7, 7, 7, 7, 7, 7, 7, 7, 7, 7, 7, 7, 7, 7, 7, 7, 7, 7, 7, 7, 7, 7, 7, 7, 7, 7, 7, 7, 7, 7, 7, 7, 7, 7, 7, 7, 7, 7, 7, 7, 7, 7, 7, 7, 7, 7, 7, 7, 7, 7, 7, 7, 7, 7, 8, 8, 8, 8, 8, 8, 8, 8, 8, 8, 8, 8, 8, 8, 8, 8, 8, 8, 8, 8, 8, 8, 8, 8, 8, 8, 8, 8, 8, 8, 8, 8, 8, 8, 8, 8, 8, 8, 8, 8, 8, 8, 8, 8, 8, 8, 8, 8, 8, 8, 8, 8, 8, 8, 8, 8, 8, 8, 8, 8, 8, 8, 8, 8, 8, 8, 8, 8, 8, 8, 8, 8, 8, 8, 8, 8, 8, 8, 8, 8, 8, 8, 8, 8, 8, 8, 8, 8, 8, 8, 8, 8, 8, 8, 8, 8, 8, 8, 8, 8, 8, 8, 8, 8, 8, 8, 8, 8, 8, 8, 8, 8, 8, 8, 8, 8, 8, 8, 8, 8, 8, 8, 8, 8, 8, 8, 8, 8] : Nat) : Int)))) (
     let x6 := ((List.getD ([0, 1, 2, 2, 3, 3, 3, 3, 4, 4, 4, 4, 4, 4, 4, 4, 5, 5, 5, 5, 5, 5, 5, 5, 5, 5, 5, 5, 5, 5, 5, 5, 6, 6, 6, 6, 6, 6, 6, 6, 6, 6, 6, 6, 6, 6, 6, 6, 6, 6, 6, 6, 6, 6, 6, 6, 6, 6, 6, 6, 6, 6, 6, 6, 7, 7, 7, 7, 7, 7, 7, 7, 7, 7, 7, 7, 7, 7, 7, 7, 7, 7, 7, 7, 7, 7, 7, 7, 7, 7, 7, 7, 7, 7, 7, 7, 7, 7, 7, 7, 7, 7, 7, 7, 7, 7, 7, 7, 7, 7, 7, 7, 7, 7, 7, 7, 7, 7, 7, 7, 7, 7, 7, 7, 7, 7, 7, 7, 8, 8, 8, 8, 8, 8, 8, 8, 8, 8, 8, 8, 8, 8, 8, 8, 8, 8, 8, 8, 8, 8, 8, 8, 8, 8, 8, 8, 8, 8, 8, 8, 8, 8, 8, 8, 8, 8, 8, 8, 8, 8, 8, 8, 8, 8, 8, 8, 8, 8, 8, 8, 8, 8, 8, 8, 8, 8, 8, 8, 8, 8, 8, 8, 8, 8, 8, 8, 8, 8, 8, 8, 8, 8, 8, 8, 8, 8, 8, 8, 8, 8, 8, 8, 8, 8, 8, 8, 8, 8, 8, 8, 8, 8, 8, 8, 8, 8, 8, 8, 8, 8, 8, 8, 8, 8, 8, 8, 8, 8, 8, 8, 8, 8, 8, 8, 8, 8, 8, 8, 8, 8, 8, 8, 8, 8, 8, 8] : List UInt8) (Int.toNat x5) 0).toNat : Int);
     let x7 := IntKind.wrap .i64 x6;
     let x8 := IntKind.wrap .i64 (40 + x7);
     .leaf x8)))
    (
     let x4 := IntKind.wrap .u8 x1;
     .need ((decide (0 ≤ x4) && decide (x4 < ((List.length [0, 1, 2, 2, 3, 3, 3, 3, 4, 4, 4, 4, 4, 4, 4, 4, 5, 5, 5, 5, 5, 5, 5, 5, 5, 5, 5, 5, 5, 5, 5, 5, 6, 6, 6, 6, 6, 6, 6, 6, 6, 6, 6, 6, 6, 6, 6, 6, 6, 6, 6, 6, 6, 6, 6, 6, 6, 6, 6, 6, 6, 6, 6, 6, 7, 7, 7, 7, 7, 7, 7, 7, 7, 7, 7, 7, 7, 7, 7, 7, 7, 7, 7, 7, 7, 7, 7, 7, 7, 7, 7, 7, 7, 7, 7, 7, 7, 7, 7, 7, 7, 7, 7, 7, 7, 7, 7, 7, 7, 7, 7, 7, 7, 7, 7, 7, 7, 7, 7, 7, 7, 7, 7, 7, 7, 7, 7, 7, 8, 8, 8, 8, 8, 8, 8, 8, 8, 8, 8, 8, 8, 8, 8, 8, 8, 8, 8, 8, 8, 8, 8, 8, 8, 8, 8, 8, 8, 8, 8, 8, 8, 8, 8, 8, 8, 8, 8, 8, 8, 8, 8, 8, 8, 8, 8, 8, 8, 8, 8, 8, 8, 8, 8, 8, 8, 8, 8, 8, 8, 8, 8, 8, 8, 8, 8, 8, 8, 8, 8, 8, 8, 8, 8, 8, 8, 8, 8, 8, 8, 8, 8, 8, 8, 8, 8, 8, 8, 8, 8, 8, 8, 8, 8, 8, 8, 8, 8, 8, 8, 8, 8, 8, 8, 8, 8, 8, 8, 8, 8, 8, 8, 8, 8, 8, 8, 8, 8, 8, 8, 8, 8, 8, 8, 8, 8, 8] : Nat) : Int)))) (
     let x5 := ((List.getD ([0, 1, 2, 2, 3, 3, 3, 3, 4, 4, 4, 4, 4, 4, 4, 4, 5, 5, 5, 5, 5, 5, 5, 5, 5, 5, 5, 5, 5, 5, 5, 5, 6, 6, 6, 6, 6, 6, 6, 6, 6, 6, 6, 6, 6, 6, 6, 6, 6, 6, 6, 6, 6, 6, 6, 6, 6, 6, 6, 6, 6, 6, 6, 6, 7, 7, 7, 7, 7, 7, 7, 7, 7, 7, 7, 7, 7, 7, 7, 7, 7, 7, 7, 7, 7, 7, 7, 7, 7, 7, 7, 7, 7, 7, 7, 7, 7, 7, 7, 7, 7, 7, 7, 7, 7, 7, 7, 7, 7, 7, 7, 7, 7, 7, 7, 7, 7, 7, 7, 7, 7, 7, 7, 7, 7, 7, 7, 7, 8, 8, 8, 8, 8, 8, 8, 8, 8, 8, 8, 8, 8, 8, 8, 8, 8, 8, 8, 8, 8, 8, 8, 8, 8, 8, 8, 8, 8, 8, 8, 8, 8, 8, 8, 8, 8, 8, 8, 8, 8, 8, 8, 8, 8, 8, 8, 8, 8, 8, 8, 8, 8, 8, 8, 8, 8, 8, 8, 8, 8, 8, 8, 8, 8, 8, 8, 8, 8, 8, 8, 8, 8, 8, 8, 8, 8, 8, 8, 8, 8, 8, 8, 8, 8, 8, 8, 8, 8, 8, 8, 8, 8, 8, 8, 8, 8, 8, 8, 8, 8, 8, 8, 8, 8, 8, 8, 8, 8, 8, 8, 8, 8, 8, 8, 8, 8, 8, 8, 8, 8, 8, 8, 8, 8, 8, 8, 8] : List UInt8) (Int.toNat x4) 0).toNat : Int);
     let x6 := IntKind.wrap .i64 x5;
     let x7 := IntKind.wrap .i64 (32 + x6);
     .leaf x7)))))
  (
   let x1 := decide (a0 ≥ 65536);
   .ask x1
   (
    .skip (
    let x2 := Int.fdiv a0 (2 ^ (min (Int.toNat 16) (IntKind.bits .u64)));
    let x3 := decide (x2 ≥ 256);
    .ask x3
    (
     .skip (
     let x4 := Int.fdiv x2 (2 ^ (min (Int.toNat 8) (IntKind.bits .u64)));
     let x5 := IntKind.wrap .u8 x4;
     .need ((decide (0 ≤ x5) && decide (x5 < ((List.length [0, 1, 2, 2, 3, 3, 3, 3, 4, 4, 4, 4, 4, 4, 4, 4, 5, 5, 5, 5, 5, 5, 5, 5, 5, 5, 5, 5, 5, 5, 5, 5, 6, 6, 6, 6, 6, 6, 6, 6, 6, 6, 6, 6, 6, 6, 6, 6, 6, 6, 6, 6, 6, 6, 6, 6, 6, 6, 6, 6, 6, 6, 6, 6, 7, 7, 7, 7, 7, 7, 7, 7, 7, 7, 7, 7, 7, 7, 7, 7, 7, 7, 7, 7, 7, 7, 7, 7, 7, 7, 7, 7, 7, 7, 7, 7, 7, 7, 7, 7, 7, 7, 7, 7, 7, 7, 7, 7, 7, 7, 7, 7, 7, 7, 7, 7, 7, 7, 7, 7, 7, 7, 7, 7, 7, 7, 7, 7, 8, 8, 8, 8, 8, 8, 8, 8, 8, 8, 8, 8, 8, 8, 8, 8, 8, 8, 8, 8, 8, 8, 8, 8, 8, 8, 8, 8, 8, 8, 8, 8, 8, 8, 8, 8, 8, 8, 8, 8, 8, 8, 8, 8, 8, 8, 8, 8, 8, 8, 8, 8, 8, 8, 8, 8, 8, 8, 8, 8, 8, 8, 8, 8, 8, 8, 8, 8, 8, 8, 8, 8, 8, 8, 8, 8, 8, 8, 8, 8, 8, 8, 8, 8, 8, 8, 8, 8, 8, 8, 8, 8, 8, 8, 8, 8, 8, 8, 8, 8, 8, 8, 8, 8, 8, 8, 8, 8, 8, 8, 8, 8, 8, 8, 8, 8, 8, 8, 8, 8, 8, 8, 8, 8, 8, 8, 8, 8] : Nat) : Int)))) (
     let x6 := ((List.getD ([0, 1, 2, 2, 3, 3, 3, 3, 4, 4, 4, 4, 4, 4, 4, 4, 5, 5, 5, 5, 5, 5, 5, 5, 5, 5, 5, 5, 5, 5, 5, 5, 6, 6, 6, 6, 6, 6, 6, 6, 6, 6, 6, 6, 6, 6, 6, 6, 6, 6, 6, 6, 6, 6, 6, 6, 6, 6, 6, 6, 6, 6, 6, 6, 7, 7, 7, 7, 7, 7, 7, 7, 7, 7, 7, 7, 7, 7, 7, 7, 7, 7, 7, 7, 7, 7, 7, 7, 7, 7, 7, 7, 7, 7, 7, 7, 7, 7, 7, 7, 7, 7, 7, 7, 7, 7, 7, 7, 7, 7, 7, 7, 7, 7, 7, 7, 7, 7, 7, 7, 7, 7, 7, 7, 7, 7, 7, 7, 8, 8, 8, 8, 8, 8, 8, 8, 8, 8, 8, 8, 8, 8, 8, 8, 8, 8, 8, 8, 8, 8, 8, 8, 8, 8, 8, 8, 8, 8, 8, 8, 8, 8, 8, 8, 8, 8, 8, 8, 8, 8, 8, 8, 8, 8, 8, 8, 8, 8, 8, 8, 8, 8, 8, 8, 8, 8, 8, 8, 8, 8, 8, 8, 8, 8, 8, 8, 8, 8, 8, 8, 8, 8, 8, 8, 8, 8, 8, 8, 8, 8, 8, 8, 8, 8, 8, 8, 8, 8, 8, 8, 8, 8, 8, 8, 8, 8, 8, 8, 8, 8, 8, 8, 8, 8, 8, 8, 8, 8, 8, 8, 8, 8, 8, 8, 8, 8, 8, 8, 8, 8, 8, 8, 8, 8, 8, 8] : List UInt8) (Int.toNat x5) 0).toNat : Int);
     let x7 := IntKind.wrap .i64 x6;
     let x8 := IntKind.wrap .i64 (24 + x7);
     .leaf x8)))
    (
     let x4 := IntKind.wrap .u8 x2;
     .need ((decide (0 ≤ x4) && decide (x4 < ((List.length [0, 1, 2, 2, 3, 3, 3, 3, 4, 4, 4, 4, 4, 4, 4, 4, 5, 5, 5, 5, 5, 5, 5, 5, 5, 5, 5, 5, 5, 5, 5, 5, 6, 6, 6, 6, 6, 6, 6, 6, 6, 6, 6, 6, 6, 6, 6, 6, 6, 6, 6, 6, 6, 6, 6, 6, 6, 6, 6, 6, 6, 6, 6, 6, 7, 7, 7, 7, 7, 7, 7, 7, 7, 7, 7, 7, 7, 7, 7, 7, 7, 7, 7, 7, 7, 7, 7, 7, 7, 7, 7, 7, 7, 7, 7, 7, 7, 7, 7, 7, 7, 7, 7, 7, 7, 7, 7, 7, 7, 7, 7, 7, 7, 7, 7, 7, 7, 7, 7, 7, 7, 7, 7, 7, 7, 7, 7, 7, 8, 8, 8, 8, 8, 8, 8, 8, 8, 8, 8, 8, 8, 8, 8, 8, 8, 8, 8, 8, 8, 8, 8, 8, 8, 8, 8, 8, 8, 8, 8, 8, 8, 8, 8, 8, 8, 8, 8, 8, 8, 8, 8, 8, 8, 8, 8, 8, 8, 8, 8, 8, 8, 8, 8, 8, 8, 8, 8, 8, 8, 8, 8, 8, 8, 8, 8, 8, 8, 8, 8, 8, 8, 8, 8, 8, 8, 8, 8, 8, 8, 8, 8, 8, 8, 8, 8, 8, 8, 8, 8, 8, 8, 8, 8, 8, 8, 8, 8, 8, 8, 8, 8, 8, 8, 8, 8, 8, 8, 8, 8, 8, 8, 8, 8, 8, 8, 8, 8, 8, 8, 8, 8, 8, 8, 8, 8, 8] : Nat) : Int)))) (
     let x5 := ((List.getD ([0, 1, 2, 2, 3, 3, 3, 3, 4, 4, 4, 4, 4, 4, 4, 4, 5, 5, 5, 5, 5, 5, 5, 5, 5, 5, 5, 5, 5, 5, 5, 5, 6, 6, 6, 6, 6, 6, 6, 6, 6, 6, 6, 6, 6, 6, 6, 6, 6, 6, 6, 6, 6, 6, 6, 6, 6, 6, 6, 6, 6, 6, 6, 6, 7, 7, 7, 7, 7, 7, 7, 7, 7, 7, 7, 7, 7, 7, 7, 7, 7, 7, 7, 7, 7, 7, 7, 7, 7, 7, 7, 7, 7, 7, 7, 7, 7, 7, 7, 7, 7, 7, 7, 7, 7, 7, 7, 7, 7, 7, 7, 7, 7, 7, 7, 7, 7, 7, 7, 7, 7, 7, 7, 7, 7, 7, 7, 7, 8, 8, 8, 8, 8, 8, 8, 8, 8, 8, 8, 8, 8, 8, 8, 8, 8, 8, 8, 8, 8, 8, 8, 8, 8, 8, 8, 8, 8, 8, 8, 8, 8, 8, 8, 8, 8, 8, 8, 8, 8, 8, 8, 8, 8, 8, 8, 8, 8, 8, 8, 8, 8, 8, 8, 8, 8, 8, 8, 8, 8, 8, 8, 8, 8, 8, 8, 8, 8, 8, 8, 8, 8, 8, 8, 8, 8, 8, 8, 8, 8, 8, 8, 8, 8, 8, 8, 8, 8, 8, 8, 8, 8, 8, 8, 8, 8, 8, 8, 8, 8, 8, 8, 8, 8, 8, 8, 8, 8, 8, 8, 8, 8, 8, 8, 8, 8, 8, 8, 8, 8, 8, 8, 8, 8, 8, 8, 8] : List UInt8) (Int.toNat x4) 0).toNat : Int);
     let x6 := IntKind.wrap .i64 x5;
     let x7 := IntKind.wrap .i64 (16 + x6);
     .leaf x7))))
   (
    let x2 := decide (a0 ≥ 256);
    .ask x2
    (
     .skip (
     let x3 := Int.fdiv a0 (2 ^ (min (Int.toNat 8) (IntKind.bits .u64)));
     let x4 := IntKind.wrap .u8 x3;
     .need ((decide (0 ≤ x4) && decide (x4 < ((List.length [0, 1, 2, 2, 3, 3, 3, 3, 4, 4, 4, 4, 4, 4, 4, 4, 5, 5, 5, 5, 5, 5, 5, 5, 5, 5, 5, 5, 5, 5, 5, 5, 6, 6, 6, 6, 6, 6, 6, 6, 6, 6, 6, 6, 6, 6, 6, 6, 6, 6, 6, 6, 6, 6, 6, 6, 6, 6, 6, 6, 6, 6, 6, 6, 7, 7, 7, 7, 7, 7, 7, 7, 7, 7, 7, 7, 7, 7, 7, 7, 7, 7, 7, 7, 7, 7, 7, 7, 7, 7, 7, 7, 7, 7, 7, 7, 7, 7, 7, 7, 7, 7, 7, 7, 7, 7, 7, 7, 7, 7, 7, 7, 7, 7, 7, 7, 7, 7, 7, 7, 7, 7, 7, 7, 7, 7, 7, 7, 8, 8, 8, 8, 8, 8, 8, 8, 8, 8, 8, 8, 8, 8, 8, 8, 8, 8, 8, 8, 8, 8, 8, 8, 8, 8, 8, 8, 8, 8, 8, 8, 8, 8, 8, 8, 8, 8, 8, 8, 8, 8, 8, 8, 8, 8, 8, 8, 8, 8, 8, 8, 8, 8, 8, 8, 8, 8, 8, 8, 8, 8, 8, 8, 8, 8, 8, 8, 8, 8, 8, 8, 8, 8, 8, 8, 8, 8, 8, 8, 8, 8, 8, 8, 8, 8, 8, 8, 8, 8, 8, 8, 8, 8, 8, 8, 8, 8, 8, 8, 8, 8, 8, 8, 8, 8, 8, 8, 8, 8, 8, 8, 8, 8, 8, 8, 8, 8, 8, 8, 8, 8, 8, 8, 8, 8, 8, 8] : Nat) : Int)))) (
     let x5 := ((List.getD ([0, 1, 2, 2, 3, 3, 3, 3, 4, 4, 4, 4, 4, 4, 4, 4, 5, 5, 5, 5, 5, 5, 5, 5, 5, 5, 5, 5, 5, 5, 5, 5, 6, 6, 6, 6, 6, 6, 6, 6, 6, 6, 6, 6, 6, 6, 6, 6, 6, 6, 6, 6, 6, 6, 6, 6, 6, 6, 6, 6, 6, 6, 6, 6, 7, 7, 7, 7, 7, 7, 7, 7, 7, 7, 7, 7, 7, 7, 7, 7, 7, 7, 7, 7, 7, 7, 7, 7, 7, 7, 7, 7, 7, 7, 7, 7, 7, 7, 7, 7, 7, 7, 7, 7, 7, 7, 7, 7, 7, 7, 7, 7, 7, 7, 7, 7, 7, 7, 7, 7, 7, 7, 7, 7, 7, 7, 7, 7, 8, 8, 8, 8, 8, 8, 8, 8, 8, 8, 8, 8, 8, 8, 8, 8, 8, 8, 8, 8, 8, 8, 8, 8, 8, 8, 8, 8, 8, 8, 8, 8, 8, 8, 8, 8, 8, 8, 8, 8, 8, 8, 8, 8, 8, 8, 8, 8, 8, 8, 8, 8, 8, 8, 8, 8, 8, 8, 8, 8, 8, 8, 8, 8, 8, 8, 8, 8, 8, 8, 8, 8, 8, 8, 8, 8, 8, 8, 8, 8, 8, 8, 8, 8, 8, 8, 8, 8, 8, 8, 8, 8, 8, 8, 8, 8, 8, 8, 8, 8, 8, 8, 8, 8, 8, 8, 8, 8, 8, 8, 8, 8, 8, 8, 8, 8, 8, 8, 8, 8, 8, 8, 8, 8, 8, 8, 8, 8] : List UInt8) (Int.toNat x4) 0).toNat : Int);
     let x6 := IntKind.wrap .i64 x5;
     let x7 := IntKind.wrap .i64 (8 + x6);
     .leaf x7)))
    (
     let x3 := IntKind.wrap .u8 a0;
     .need ((decide (0 ≤ x3) && decide (x3 < ((List.length [0, 1, 2, 2, 3, 3, 3, 3, 4, 4, 4, 4, 4, 4, 4, 4, 5, 5, 5, 5, 5, 5, 5, 5, 5, 5, 5, 5, 5, 5, 5, 5, 6, 6, 6, 6, 6, 6, 6, 6, 6, 6, 6, 6, 6, 6, 6, 6, 6, 6, 6, 6, 6, 6, 6, 6, 6, 6, 6, 6, 6, 6, 6, 6, 7, 7, 7, 7, 7, 7, 7, 7, 7, 7, 7, 7, 7, 7, 7, 7, 7, 7, 7, 7, 7, 7, 7, 7, 7, 7, 7, 7, 7, 7, 7, 7, 7, 7, 7, 7, 7, 7, 7, 7, 7, 7, 7, 7, 7, 7, 7, 7, 7, 7, 7, 7, 7, 7, 7, 7, 7, 7, 7, 7, 7, 7, 7, 7, 8, 8, 8, 8, 8, 8, 8, 8, 8, 8, 8, 8, 8, 8, 8, 8, 8, 8, 8, 8, 8, 8, 8, 8, 8, 8, 8, 8, 8, 8, 8, 8, 8, 8, 8, 8, 8, 8, 8, 8, 8, 8, 8, 8, 8, 8, 8, 8, 8, 8, 8, 8, 8, 8, 8, 8, 8, 8, 8, 8, 8, 8, 8, 8, 8, 8, 8, 8, 8, 8, 8, 8, 8, 8, 8, 8, 8, 8, 8, 8, 8, 8, 8, 8, 8, 8, 8, 8, 8, 8, 8, 8, 8, 8, 8, 8, 8, 8, 8, 8, 8, 8, 8, 8, 8, 8, 8, 8, 8, 8, 8, 8, 8, 8, 8, 8, 8, 8, 8, 8, 8, 8, 8, 8, 8, 8, 8, 8] : Nat) : Int)))) (
     let x4 := ((List.getD ([0, 1, 2, 2, 3, 3, 3, 3, 4, 4, 4, 4, 4, 4, 4, 4, 5, 5, 5, 5, 5, 5, 5, 5, 5, 5, 5, 5, 5, 5, 5, 5, 6, 6, 6, 6, 6, 6, 6, 6, 6, 6, 6, 6, 6, 6, 6, 6, 6, 6, 6, 6, 6, 6, 6, 6, 6, 6, 6, 6, 6, 6, 6, 6, 7, 7, 7, 7, 7, 7, 7, 7, 7, 7, 7, 7, 7, 7, 7, 7, 7, 7, 7, 7, 7, 7, 7, 7, 7, 7, 7, 7, 7, 7, 7, 7, 7, 7, 7, 7, 7, 7, 7, 7, 7, 7, 7, 7, 7, 7, 7, 7, 7, 7, 7, 7, 7, 7, 7, 7, 7, 7, 7, 7, 7, 7, 7, 7, 8, 8, 8, 8, 8, 8, 8, 8, 8, 8, 8, 8, 8, 8, 8, 8, 8, 8, 8, 8, 8, 8, 8, 8, 8, 8, 8, 8, 8, 8, 8, 8, 8, 8, 8, 8, 8, 8, 8, 8, 8, 8, 8, 8, 8, 8, 8, 8, 8, 8, 8, 8, 8, 8, 8, 8, 8, 8, 8, 8, 8, 8, 8, 8, 8, 8, 8, 8, 8, 8, 8, 8, 8, 8, 8, 8, 8, 8, 8, 8, 8, 8, 8, 8, 8, 8, 8, 8, 8, 8, 8, 8, 8, 8, 8, 8, 8, 8, 8, 8, 8, 8, 8, 8, 8, 8, 8, 8, 8, 8, 8, 8, 8, 8, 8, 8, 8, 8, 8, 8, 8, 8, 8, 8, 8, 8, 8, 8] : List UInt8) (Int.toNat x3) 0).toNat : Int);
     let x5 := IntKind.wrap .i64 x4;
     let x6 := IntKind.wrap .i64 (0 + x5);
     .leaf x6))))
def math_bits_Len64 (a0 : Int) : Int := (math_bits_Len64_tree a0).val
def math_bits_Len64_need (a0 : Int) : Bool := (math_bits_Len64_tree a0).ok
def math_bits_Len64_mk (p : Int) : Ret := ⟨.int .i64 p, []⟩
def math_bits_Len64_c : Con := fun args => match args with
  | [.int .u64 a0] => some (.need (math_bits_Len64_need a0) (.leaf (math_bits_Len64_mk (math_bits_Len64 a0))))
  | _ => none
set_option maxRecDepth 100000 in
theorem math_bits_Len64_ok : FunOK Tryd.prog 177 math_bits_Len64_c.fn := by
  refine con_ok (Γ := gam []) (gam_nil) tab_ok (by kernel_rfl) Tryd.func177 (by kernel_rfl) (by kernel_rfl) Tryd.ntmps177 Tryd.results177 (loopsOK_none rfl _) 100000 fun args t h => ?_
  unfold math_bits_Len64_c at h
  split at h
  · rename_i a0
    cases h
    exact ⟨rfl, agree_need (mk := math_bits_Len64_mk) (t := math_bits_Len64_tree a0) (by unfold Agree; kernel_rfl)⟩
  · cases h

/-- internal/strconv.log10Pow2 -/
def internal_strconv_log10Pow2_tree (a0 : Int) : DT (Int) :=
  let x0 := IntKind.wrap .i64 (a0 * 78913);
  .skip (
  let x1 := Int.fdiv x0 (2 ^ (min (Int.toNat 18) (IntKind.bits .i64)));
  .leaf x1)
def internal_strconv_log10Pow2 (a0 : Int) : Int := (internal_strconv_log10Pow2_tree a0).val
def internal_strconv_log10Pow2_mk (p : Int) : Ret := ⟨.int .i64 p, []⟩
def internal_strconv_log10Pow2_c : Con := fun args => match args with
  | [.int .i64 a0] => some (.leaf (internal_strconv_log10Pow2_mk (internal_strconv_log10Pow2 a0)))
  | _ => none
set_option maxRecDepth 100000 in
theorem internal_strconv_log10Pow2_ok : FunOK Tryd.prog 176 internal_strconv_log10Pow2_c.fn := by
  refine con_ok (Γ := gam []) (gam_nil) tab_ok (by kernel_rfl) Tryd.func176 (by kernel_rfl) (by kernel_rfl) Tryd.ntmps176 Tryd.results176 (loopsOK_none rfl _) 100000 fun args t h => ?_
  unfold internal_strconv_log10Pow2_c at h
  split at h
  · rename_i a0
    cases h
    exact ⟨rfl, agree_tot (mk := internal_strconv_log10Pow2_mk) (t := internal_strconv_log10Pow2_tree a0) (by unfold Agree; kernel_rfl) (by kernel_rfl)⟩
  · cases h

/-- internal/strconv.bool2[int] -/
def internal_strconv_bool2_int__tree (a0 : Bool) : DT (Int) :=
  .ask a0
  (
   .leaf 1)
  (
   .leaf 0)
def internal_strconv_bool2_int_ (a0 : Bool) : Int := (internal_strconv_bool2_int__tree a0).val
def internal_strconv_bool2_int__mk (p : Int) : Ret := ⟨.int .i64 p, []⟩
def internal_strconv_bool2_int__c : Con := fun args => match args with
  | [.bool a0] => some (.leaf (internal_strconv_bool2_int__mk (internal_strconv_bool2_int_ a0)))
  | _ => none
set_option maxRecDepth 100000 in
theorem internal_strconv_bool2_int__ok : FunOK Tryd.prog 178 internal_strconv_bool2_int__c.fn := by
  refine con_ok (Γ := gam []) (gam_nil) tab_ok (by kernel_rfl) Tryd.func178 (by kernel_rfl) (by kernel_rfl) Tryd.ntmps178 Tryd.results178 (loopsOK_none rfl _) 100000 fun args t h => ?_
  unfold internal_strconv_bool2_int__c at h
  split at h
  · rename_i a0
    cases h
    exact ⟨rfl, agree_tot (mk := internal_strconv_bool2_int__mk) (t := internal_strconv_bool2_int__tree a0) (by unfold Agree; kernel_rfl) (by kernel_rfl)⟩
  · cases h

-- FAILED 158 internal/strconv.numDigits: global

-- FAILED 159 internal/strconv.formatBase10: mut: results

/-- internal/strconv.isPowerOfTwo -/
def internal_strconv_isPowerOfTwo_tree (a0 : Int) : DT (Bool) :=
  let x0 := IntKind.wrap .i64 (a0 - 1);
  let x1 := IntKind.wrap .i64 (BitVec.ofInt (IntKind.bits .i64) a0 &&& BitVec.ofInt (IntKind.bits .i64) x0).toNat;
  let x2 := (x1 == 0);
  .leaf x2
def internal_strconv_isPowerOfTwo (a0 : Int) : Bool := (internal_strconv_isPowerOfTwo_tree a0).val
def internal_strconv_isPowerOfTwo_mk (p : Bool) : Ret := ⟨.bool p, []⟩
def internal_strconv_isPowerOfTwo_c : Con := fun args => match args with
  | [.int .i64 a0] => some (.leaf (internal_strconv_isPowerOfTwo_mk (internal_strconv_isPowerOfTwo a0)))
  | _ => none
set_option maxRecDepth 100000 in
theorem internal_strconv_isPowerOfTwo_ok : FunOK Tryd.prog 179 internal_strconv_isPowerOfTwo_c.fn := by
  refine con_ok (Γ := gam []) (gam_nil) tab_ok (by kernel_rfl) Tryd.func179 (by kernel_rfl) (by kernel_rfl) Tryd.ntmps179 Tryd.results179 (loopsOK_none rfl _) 100000 fun args t h => ?_
  unfold internal_strconv_isPowerOfTwo_c at h
  split at h
  · rename_i a0
    cases h
    exact ⟨rfl, agree_tot (mk := internal_strconv_isPowerOfTwo_mk) (t := internal_strconv_isPowerOfTwo_tree a0) (by unfold Agree; kernel_rfl) (by kernel_rfl)⟩
  · cases h

-- FAILED 189 math/bits.TrailingZeros32: global

-- FAILED 190 math/bits.TrailingZeros64: global

-- FAILED 180 math/bits.TrailingZeros: no contract: math/bits.TrailingZeros64 

-- FAILED 160 internal/strconv.formatBits: operation

-- FAILED 142 internal/strconv.FormatInt: no contract: internal/strconv.numDigits 

/-- math/bits.Mul32 -/
def math_bits_Mul32_tree (a0 : Int) (a1 : Int) : DT (Int × Int) :=
  let x0 := IntKind.wrap .u64 a0;
  let x1 := IntKind.wrap .u64 a1;
  let x2 := IntKind.wrap .u64 (x0 * x1);
  .skip (
  let x3 := Int.fdiv x2 (2 ^ (min (Int.toNat 32) (IntKind.bits .u64)));
  let x4 := IntKind.wrap .u32 x3;
  let x5 := IntKind.wrap .u32 x2;
  .leaf (x4, x5))
def math_bits_Mul32 (a0 : Int) (a1 : Int) : Int × Int := (math_bits_Mul32_tree a0 a1).val
def math_bits_Mul32_mk (p : Int × Int) : Ret := ⟨.tup [.int .u32 p.1, .int .u32 p.2], []⟩
def math_bits_Mul32_c : Con := fun args => match args with
  | [.int .u32 a0, .int .u32 a1] => some (.leaf (math_bits_Mul32_mk (math_bits_Mul32 a0 a1)))
  | _ => none
set_option maxRecDepth 100000 in
theorem math_bits_Mul32_ok : FunOK Tryd.prog 163 math_bits_Mul32_c.fn := by
  refine con_ok (Γ := gam []) (gam_nil) tab_ok (by kernel_rfl) Tryd.func163 (by kernel_rfl) (by kernel_rfl) Tryd.ntmps163 Tryd.results163 (loopsOK_none rfl _) 100000 fun args t h => ?_
  unfold math_bits_Mul32_c at h
  split at h
  · rename_i a0 a1
    cases h
    exact ⟨rfl, agree_tot (mk := math_bits_Mul32_mk) (t := math_bits_Mul32_tree a0 a1) (by unfold Agree; kernel_rfl) (by kernel_rfl)⟩
  · cases h

/-- math/bits.Mul64 -/
def math_bits_Mul64_tree (a0 : Int) (a1 : Int) : DT (Int × Int) :=
  let x0 := IntKind.wrap .u64 (BitVec.ofInt (IntKind.bits .u64) a0 &&& BitVec.ofInt (IntKind.bits .u64) 4294967295).toNat;
  .skip (
  let x1 := Int.fdiv a0 (2 ^ (min (Int.toNat 32) (IntKind.bits .u64)));
  let x2 := IntKind.wrap .u64 (BitVec.ofInt (IntKind.bits .u64) a1 &&& BitVec.ofInt (IntKind.bits .u64) 4294967295).toNat;
  .skip (
  let x3 := Int.fdiv a1 (2 ^ (min (Int.toNat 32) (IntKind.bits .u64)));
  let x4 := IntKind.wrap .u64 (x0 * x2);
  let x5 := IntKind.wrap .u64 (x1 * x2);
  .skip (
  let x6 := Int.fdiv x4 (2 ^ (min (Int.toNat 32) (IntKind.bits .u64)));
  let x7 := IntKind.wrap .u64 (x5 + x6);
  let x8 := IntKind.wrap .u64 (BitVec.ofInt (IntKind.bits .u64) x7 &&& BitVec.ofInt (IntKind.bits .u64) 4294967295).toNat;
  .skip (
  let x9 := Int.fdiv x7 (2 ^ (min (Int.toNat 32) (IntKind.bits .u64)));
  let x10 := IntKind.wrap .u64 (x0 * x3);
  let x11 := IntKind.wrap .u64 (x8 + x10);
  let x12 := IntKind.wrap .u64 (x1 * x3);
  let x13 := IntKind.wrap .u64 (x12 + x9);
  .skip (
  let x14 := Int.fdiv x11 (2 ^ (min (Int.toNat 32) (IntKind.bits .u64)));
  let x15 := IntKind.wrap .u64 (x13 + x14);
  let x16 := IntKind.wrap .u64 (a0 * a1);
  .leaf (x15, x16))))))
def math_bits_Mul64 (a0 : Int) (a1 : Int) : Int × Int := (math_bits_Mul64_tree a0 a1).val
def math_bits_Mul64_mk (p : Int × Int) : Ret := ⟨.tup [.int .u64 p.1, .int .u64 p.2], []⟩
def math_bits_Mul64_c : Con := fun args => match args with
  | [.int .u64 a0, .int .u64 a1] => some (.leaf (math_bits_Mul64_mk (math_bits_Mul64 a0 a1)))
  | _ => none
set_option maxRecDepth 100000 in
theorem math_bits_Mul64_ok : FunOK Tryd.prog 164 math_bits_Mul64_c.fn := by
  refine con_ok (Γ := gam []) (gam_nil) tab_ok (by kernel_rfl) Tryd.func164 (by kernel_rfl) (by kernel_rfl) Tryd.ntmps164 Tryd.results164 (loopsOK_none rfl _) 100000 fun args t h => ?_
  unfold math_bits_Mul64_c at h
  split at h
  · rename_i a0 a1
    cases h
    exact ⟨rfl, agree_tot (mk := math_bits_Mul64_mk) (t := math_bits_Mul64_tree a0 a1) (by unfold Agree; kernel_rfl) (by kernel_rfl)⟩
  · cases h

/-- math/bits.Mul -/
def math_bits_Mul_tree (a0 : Int) (a1 : Int) : DT (Int × Int) :=
  let x0 := math_bits_Mul64 a0 a1;
  .leaf (x0.1, x0.2)
def math_bits_Mul (a0 : Int) (a1 : Int) : Int × Int := (math_bits_Mul_tree a0 a1).val
def math_bits_Mul_mk (p : Int × Int) : Ret := ⟨.tup [.int .u64 p.1, .int .u64 p.2], []⟩
def math_bits_Mul_c : Con := fun args => match args with
  | [.int .u64 a0, .int .u64 a1] => some (.leaf (math_bits_Mul_mk (math_bits_Mul a0 a1)))
  | _ => none
set_option maxRecDepth 100000 in
theorem math_bits_Mul_ok : FunOK Tryd.prog 145 math_bits_Mul_c.fn := by
  refine con_ok (Γ := gam [(164, math_bits_Mul64_c)]) (gam_cons math_bits_Mul64_ok (gam_nil)) tab_ok (by kernel_rfl) Tryd.func145 (by kernel_rfl) (by kernel_rfl) Tryd.ntmps145 Tryd.results145 (loopsOK_none rfl _) 100000 fun args t h => ?_
  unfold math_bits_Mul_c at h
  split at h
  · rename_i a0 a1
    cases h
    exact ⟨rfl, agree_tot (mk := math_bits_Mul_mk) (t := math_bits_Mul_tree a0 a1) (by unfold Agree; kernel_rfl) (by kernel_rfl)⟩
  · cases h

/-- internal/stringslite.HasPrefix -/
def internal_stringslite_HasPrefix_tree (a0 : (List UInt8)) (a1 : (List UInt8)) : DT (Bool) :=
  let x0 := ((List.length a0 : Nat) : Int);
  let x1 := ((List.length a1 : Nat) : Int);
  let x2 := decide (x0 ≥ x1);
  .ask x2
  (
   let x3 := ((List.length a1 : Nat) : Int);
   .need ((decide (0 ≤ x3) && decide (x3 ≤ ((List.length a0 : Nat) : Int)))) (
   let x4 := List.drop 0 (List.take (Int.toNat x3) a0);
   let x5 := (x4 == a1);
   .leaf x5))
  (
   .leaf false)
def internal_stringslite_HasPrefix (a0 : (List UInt8)) (a1 : (List UInt8)) : Bool := (internal_stringslite_HasPrefix_tree a0 a1).val
def internal_stringslite_HasPrefix_need (a0 : (List UInt8)) (a1 : (List UInt8)) : Bool := (internal_stringslite_HasPrefix_tree a0 a1).ok
def internal_stringslite_HasPrefix_mk (p : Bool) : Ret := ⟨.bool p, []⟩
def internal_stringslite_HasPrefix_c : Con := fun args => match args with
  | [.str a0, .str a1] => some (.need (internal_stringslite_HasPrefix_need a0 a1) (.leaf (internal_stringslite_HasPrefix_mk (internal_stringslite_HasPrefix a0 a1))))
  | _ => none
set_option maxRecDepth 100000 in
theorem internal_stringslite_HasPrefix_ok : FunOK Tryd.prog 165 internal_stringslite_HasPrefix_c.fn := by
  refine con_ok (Γ := gam []) (gam_nil) tab_ok (by kernel_rfl) Tryd.func165 (by kernel_rfl) (by kernel_rfl) Tryd.ntmps165 Tryd.results165 (loopsOK_none rfl _) 100000 fun args t h => ?_
  unfold internal_stringslite_HasPrefix_c at h
  split at h
  · rename_i a0 a1
    cases h
    exact ⟨rfl, agree_need (mk := internal_stringslite_HasPrefix_mk) (t := internal_stringslite_HasPrefix_tree a0 a1) (by unfold Agree; kernel_rfl)⟩
  · cases h

/-- strings.HasPrefix -/
def strings_HasPrefix_tree (a0 : (List UInt8)) (a1 : (List UInt8)) : DT (Bool) :=
  .need ((internal_stringslite_HasPrefix_need a0 a1)) (
  let x0 := internal_stringslite_HasPrefix a0 a1;
  .leaf x0)
def strings_HasPrefix (a0 : (List UInt8)) (a1 : (List UInt8)) : Bool := (strings_HasPrefix_tree a0 a1).val
def strings_HasPrefix_need (a0 : (List UInt8)) (a1 : (List UInt8)) : Bool := (strings_HasPrefix_tree a0 a1).ok
def strings_HasPrefix_mk (p : Bool) : Ret := ⟨.bool p, []⟩
def strings_HasPrefix_c : Con := fun args => match args with
  | [.str a0, .str a1] => some (.need (strings_HasPrefix_need a0 a1) (.leaf (strings_HasPrefix_mk (strings_HasPrefix a0 a1))))
  | _ => none
set_option maxRecDepth 100000 in
theorem strings_HasPrefix_ok : FunOK Tryd.prog 146 strings_HasPrefix_c.fn := by
  refine con_ok (Γ := gam [(165, internal_stringslite_HasPrefix_c)]) (gam_cons internal_stringslite_HasPrefix_ok (gam_nil)) tab_ok (by kernel_rfl) Tryd.func146 (by kernel_rfl) (by kernel_rfl) Tryd.ntmps146 Tryd.results146 (loopsOK_none rfl _) 100000 fun args t h => ?_
  unfold strings_HasPrefix_c at h
  split at h
  · rename_i a0 a1
    cases h
    exact ⟨rfl, agree_need (mk := strings_HasPrefix_mk) (t := strings_HasPrefix_tree a0 a1) (by unfold Agree; kernel_rfl)⟩
  · cases h

-- FAILED 141 internal/abi.NoEscape: no body

-- FAILED 119 (*strings.Builder).copyCheck: pointer param shape

-- FAILED 167 internal/bytealg.MakeNoZero: no body

-- FAILED 150 (*strings.Builder).grow: pointer param shape

-- FAILED 134 (*strings.Builder).Grow: pointer param shape

-- FAILED 83 (*strings.Builder).WriteString: pointer param shape

-- FAILED 81 (*strings.Builder).Len: pointer param shape

-- FAILED 85 (*strings.Builder).String: pointer param shape

/-- loop.example/g01284/impl.digits -/
def impl_digits_tree (a0 : Nat) : DT ((List UInt8)) :=
  .need ((impl_BitsOf_need a0)) (
  let x0 := impl_BitsOf a0;
  .need ((decide (0 ≤ x0) && decide (x0 ≤ 9223372036854775807))) (
  let x1 := hexText (Int.toNat x0);
  let x2 := ((List.length x1 : Nat) : Int);
  let x3 := IntKind.wrap .i64 (8 - x2);
  .need ((decide (0 ≤ x3) && decide (x3 ≤ 9223372036854775807) && decide (List.length [48] * Int.toNat x3 ≤ 140737488355328))) (
  let x4 := Go.Lib.repeatL [48] (Int.toNat x3);
  .need ((decide (List.length x4 + List.length x1 ≤ 9223372036854775807))) (
  let x5 := x4 ++ x1;
  .leaf x5))))
def impl_digits (a0 : Nat) : (List UInt8) := (impl_digits_tree a0).val
def impl_digits_need (a0 : Nat) : Bool := (impl_digits_tree a0).ok
def impl_digits_mk (p : (List UInt8)) : Ret := ⟨.str p, []⟩
def impl_digits_c : Con := fun args => match args with
  | [.flt .f32 a0] => some (.need (impl_digits_need a0) (.leaf (impl_digits_mk (impl_digits a0))))
  | _ => none
set_option maxRecDepth 100000 in
theorem impl_digits_ok : FunOK Tryd.prog 91 impl_digits_c.fn := by
  refine con_ok (Γ := gam [(124, impl_BitsOf_c), (120, strconv_FormatInt_c), (125, strings_Repeat_c)]) (gam_cons impl_BitsOf_ok (gam_cons strconv_FormatInt_ok (gam_cons strings_Repeat_ok (gam_nil)))) tab_ok (by kernel_rfl) Tryd.func91 (by kernel_rfl) (by kernel_rfl) Tryd.ntmps91 Tryd.results91 (loopsOK_none rfl _) 100000 fun args t h => ?_
  unfold impl_digits_c at h
  split at h
  · rename_i a0
    cases h
    exact ⟨rfl, agree_need (mk := impl_digits_mk) (t := impl_digits_tree a0) (by unfold Agree; kernel_rfl)⟩
  · cases h

/-- loop.example/g01284/impl.joined -/
def impl_joined_tree (a0 : List (List UInt8)) : DT ((List UInt8)) :=
  let x0 := ((List.length a0 : Nat) : Int);
  let x1 := (x0 == 0);
  .ask x1
  (
   .leaf ([110, 111, 110, 101]))
  (
   .need ((decide (List.length a0 ≤ 140737488355328) && decide (List.length (Go.Lib.join a0 [44]) ≤ 140737488355328))) (
   let x2 := Go.Lib.join a0 [44];
   .leaf x2))
def impl_joined (a0 : List (List UInt8)) : (List UInt8) := (impl_joined_tree a0).val
def impl_joined_need (a0 : List (List UInt8)) : Bool := (impl_joined_tree a0).ok
def impl_joined_mk (p : (List UInt8)) : Ret := ⟨.str p, []⟩
def impl_joined_c0 : Con := fun args => match args with
  | [.vslc 1 .str a0] => some (.need (impl_joined_need a0) (.leaf (impl_joined_mk (impl_joined a0))))
  | _ => none
set_option maxRecDepth 100000 in
theorem impl_joined_ok0 : FunOK Tryd.prog 92 impl_joined_c0.fn := by
  refine con_ok (Γ := gam [(107, strings_Join_c)]) (gam_cons strings_Join_ok (gam_nil)) tab_ok (by kernel_rfl) Tryd.func92 (by kernel_rfl) (by kernel_rfl) Tryd.ntmps92 Tryd.results92 (loopsOK_none rfl _) 100000 fun args t h => ?_
  unfold impl_joined_c0 at h
  split at h
  · rename_i a0
    cases h
    exact ⟨rfl, agree_need (mk := impl_joined_mk) (t := impl_joined_tree a0) (by unfold Agree; kernel_rfl)⟩
  · cases h
def impl_joined_c : Con := fun args => impl_joined_c0 (norms 0 [.slc .str] args)
set_option maxRecDepth 100000 in
theorem impl_joined_ok : FunOK Tryd.prog 92 impl_joined_c.fn := con_norm [.slc .str] impl_joined_ok0

/-- a loop of impl_NumbersText -/
def impl_NumbersText_loop0_step (p : List Nat × Int) (s : Int × List (List UInt8)) : Round (Int × List (List UInt8)) (List (List UInt8)) :=
  let x0 := decide (s.1 < p.2);
  .ask x0
  (
   .need ((decide (0 ≤ s.1) && decide (s.1 < ((List.length p.1 : Nat) : Int)))) (
   let x1 := List.getD p.1 (Int.toNat s.1) default;
   .need ((impl_digits_need x1)) (
   let x2 := impl_digits x1;
   .need ((decide ((List.length s.2 + List.length [x2]) * 16 ≤ 140737488355328) && decide (List.length s.2 + List.length [x2] ≤ 9223372036854775807))) (
   let x3 := s.2 ++ [x2];
   let x4 := IntKind.wrap .i64 (s.1 + 1);
   .leaf (.inl (x4, x3), [65])))))
  (
   .leaf (.inr s.2, [0]))
def impl_NumbersText_loop0_L (p : List Nat × Int) : LoopS (Int × List (List UInt8)) (List (List UInt8)) := { tl := fun s => [.junk, .junk, .junk, .junk, .own 0, .junk, .junk, .junk, .junk, .junk, .junk, .vslc 1 (.flt .f32) p.1, .int .i64 p.2, .int .i64 s.1], hl := fun s => [some (.typed 9 .str s.2)], ex := fun r => .exit 0, otl := fun r => [.junk, .junk, .junk, .junk, .own 0], ohl := fun r => [some (.typed 9 .str r)] }
def impl_NumbersText_loop0_ext : St → Option ((List Nat × Int) × (Int × List (List UInt8)) × List Nat) := fun S => match (S.tm 4).unK, (S.tm 11).unK, (S.tm 12).unK, (S.tm 13).unK with
  | .own i0, .vslc 1 (.flt .f32) q0, .int .i64 q1, .int .i64 q2 => (match S.hp i0 with
    | some (.typed 9 .str q3) => some ((q0, q1), (q2, q3), [i0])
    | _ => none)
  | _, _, _, _ => none
def impl_NumbersText_loop0_post (p : List Nat × Int) (r : List (List UInt8)) : DT (Ex × St) := .leaf (.exit 0, LSt [.junk, .junk, .junk, .junk, .own 0] [some (.typed 9 .str r)])
def impl_NumbersText_loop0 (p : List Nat × Int) (s : Int × List (List UInt8)) : List (List UInt8) := loopVal (impl_NumbersText_loop0_step p) s
def impl_NumbersText_loop0_ends (p : List Nat × Int) (s : Int × List (List UInt8)) : Bool := loopEnds (impl_NumbersText_loop0_step p) s
def impl_NumbersText_loop0_F : LoopF := loopF impl_NumbersText_loop0_step impl_NumbersText_loop0_ext impl_NumbersText_loop0_post
theorem impl_NumbersText_loop0_hext : ∀ S p s fl, impl_NumbersText_loop0_ext S = some (p, s, fl) → Norm S fl ((impl_NumbersText_loop0_L p).tl s) ((impl_NumbersText_loop0_L p).hl s) (impl_NumbersText_loop0_L p).gl := by
  intro S p s fl h
  unfold impl_NumbersText_loop0_ext at h
  (repeat' split at h) <;> first
    | (cases h; constructor <;> simp_all [impl_NumbersText_loop0_L, keepT, keepH, rens, renH, PV.ren, Blk.ren, fOf, lget, nodup, natIn, lenEq, gtm, PV.unK])
    | cases h
theorem impl_NumbersText_loop0_hpost : ∀ p r e S', (impl_NumbersText_loop0_post p r).get = some (e, S') → e = (impl_NumbersText_loop0_L p).ex r ∧ S' = LSt ((impl_NumbersText_loop0_L p).otl r) ((impl_NumbersText_loop0_L p).ohl r) ((impl_NumbersText_loop0_L p).ogl r) := by
  intro p r e S' h
  unfold impl_NumbersText_loop0_post at h
  simp only [DT.get, Option.some.injEq, Prod.mk.injEq] at h; exact ⟨h.1.symm, h.2.symm⟩

def impl_NumbersText_loops : Nat → Option LoopF := loopTab [(5, impl_NumbersText_loop0_F)]
set_option maxRecDepth 100000 in
theorem impl_NumbersText_l0 : LoopOK Tryd.prog ⟨gam [(91, impl_digits_c), (92, impl_joined_c)], tab, 25, impl_NumbersText_loops⟩ (lp Tryd.f50 0) :=
  loopOK_some (F := impl_NumbersText_loop0_F) (by kernel_rfl) (loopF_ok (E := ⟨gam [(91, impl_digits_c), (92, impl_joined_c)], tab, 25, impl_NumbersText_loops⟩) ⟨gam_cons impl_digits_ok (gam_cons impl_joined_ok (gam_nil)), tab_ok, by kernel_rfl⟩ (fuel := 100000) (loopsOK_list (l := []) (by kernel_rfl) trivial) (L := impl_NumbersText_loop0_L) (fun p s => by unfold AgreeL; exact ⟨by kernel_rfl, by kernel_rfl⟩) (fun _ _ h => Ex.noConfusion h) impl_NumbersText_loop0_hext impl_NumbersText_loop0_hpost)
/-- loop.example/g01284/impl.NumbersText -/
def impl_NumbersText_tree (a0 : List Nat) : DT ((List UInt8) × Bool) :=
  let x0 := ((List.length a0 : Nat) : Int);
  let x1 := decide (x0 > 256);
  .ask x1
  (
   .leaf ([], false))
  (
   let x2 := ((List.length a0 : Nat) : Int);
   .need ((impl_NumbersText_loop0_ends (a0, x2) (0, []))) (
   let x3 := impl_NumbersText_loop0 (a0, x2) (0, []);
   .need ((impl_joined_need x3)) (
   let x4 := impl_joined x3;
   .leaf (x4, true))))
def impl_NumbersText (a0 : List Nat) : (List UInt8) × Bool := (impl_NumbersText_tree a0).val
def impl_NumbersText_need (a0 : List Nat) : Bool := (impl_NumbersText_tree a0).ok
def impl_NumbersText_mk (p : (List UInt8) × Bool) : Ret := ⟨.tup [.str p.1, .bool p.2], []⟩
def impl_NumbersText_c0 : Con := fun args => match args with
  | [.vslc 1 (.flt .f32) a0] => some (.need (impl_NumbersText_need a0) (.leaf (impl_NumbersText_mk (impl_NumbersText a0))))
  | _ => none
set_option maxRecDepth 100000 in
theorem impl_NumbersText_ok0 : FunOK Tryd.prog 50 impl_NumbersText_c0.fn := by
  refine con_ok (Γ := gam [(91, impl_digits_c), (92, impl_joined_c)]) (gam_cons impl_digits_ok (gam_cons impl_joined_ok (gam_nil))) tab_ok (by kernel_rfl) Tryd.func50 (by kernel_rfl) (by kernel_rfl) Tryd.ntmps50 Tryd.results50 (loops := impl_NumbersText_loops) (loopsOK_list (l := [lp Tryd.f50 0]) (by kernel_rfl) ⟨impl_NumbersText_l0, trivial⟩) 100000 fun args t h => ?_
  unfold impl_NumbersText_c0 at h
  split at h
  · rename_i a0
    cases h
    exact ⟨rfl, agree_need (mk := impl_NumbersText_mk) (t := impl_NumbersText_tree a0) (by unfold Agree; kernel_rfl)⟩
  · cases h
def impl_NumbersText_c : Con := fun args => impl_NumbersText_c0 (norms 0 [.slc (.flt .f32)] args)
set_option maxRecDepth 100000 in
theorem impl_NumbersText_ok : FunOK Tryd.prog 50 impl_NumbersText_c.fn := con_norm [.slc (.flt .f32)] impl_NumbersText_ok0

/-- loop.example/g01284/impl.VectorText -/
def impl_VectorText_tree (a0 : Vec) : DT ((List UInt8)) :=
  let x0 := impl_Vector_numbers (⟨a0.X, a0.Y, a0.Z⟩ : Vec);
  .need ((impl_NumbersText_need x0)) (
  let x1 := impl_NumbersText x0;
  .leaf x1.1)
def impl_VectorText (a0 : Vec) : (List UInt8) := (impl_VectorText_tree a0).val
def impl_VectorText_need (a0 : Vec) : Bool := (impl_VectorText_tree a0).ok
def impl_VectorText_mk (p : (List UInt8)) : Ret := ⟨.str p, []⟩
def impl_VectorText_c : Con := fun args => match args with
  | [.agg [.flt .f32 a0_0, .flt .f32 a0_1, .flt .f32 a0_2]] => some (.need (impl_VectorText_need (⟨a0_0, a0_1, a0_2⟩ : Vec)) (.leaf (impl_VectorText_mk (impl_VectorText (⟨a0_0, a0_1, a0_2⟩ : Vec)))))
  | _ => none
set_option maxRecDepth 100000 in
theorem impl_VectorText_ok : FunOK Tryd.prog 15 impl_VectorText_c.fn := by
  refine con_ok (Γ := gam [(51, impl_Vector_numbers_c), (50, impl_NumbersText_c)]) (gam_cons impl_Vector_numbers_ok (gam_cons impl_NumbersText_ok (gam_nil))) tab_ok (by kernel_rfl) Tryd.func15 (by kernel_rfl) (by kernel_rfl) Tryd.ntmps15 Tryd.results15 (loopsOK_none rfl _) 100000 fun args t h => ?_
  unfold impl_VectorText_c at h
  split at h
  · rename_i a0_0 a0_1 a0_2
    cases h
    exact ⟨rfl, agree_need (mk := impl_VectorText_mk) (t := impl_VectorText_tree (⟨a0_0, a0_1, a0_2⟩ : Vec)) (by unfold Agree; kernel_rfl)⟩
  · cases h

/-- loop.example/g01284/laws.FnExactVectorText -/
def laws_FnExactVectorText_tree (a0 : Vec) : DT (Bool) :=
  let x0 := laws_toVector (⟨a0.X, a0.Y, a0.Z⟩ : Vec);
  .need ((spec_VectorText_need (⟨x0.X, x0.Y, x0.Z⟩ : Vec))) (
  let x1 := spec_VectorText (⟨x0.X, x0.Y, x0.Z⟩ : Vec);
  let x2 := laws_toVector (⟨a0.X, a0.Y, a0.Z⟩ : Vec);
  .need ((impl_VectorText_need (⟨x2.X, x2.Y, x2.Z⟩ : Vec))) (
  let x3 := impl_VectorText (⟨x2.X, x2.Y, x2.Z⟩ : Vec);
  let x4 := (!(x3 == x1));
  .ask x4
  (
   .leaf false)
  (
   .leaf true)))
def laws_FnExactVectorText (a0 : Vec) : Bool := (laws_FnExactVectorText_tree a0).val
def laws_FnExactVectorText_need (a0 : Vec) : Bool := (laws_FnExactVectorText_tree a0).ok
def laws_FnExactVectorText_mk (p : Bool) : Ret := ⟨.bool p, []⟩
def laws_FnExactVectorText_c : Con := fun args => match args with
  | [.agg [.flt .f32 a0_0, .flt .f32 a0_1, .flt .f32 a0_2]] => some (.need (laws_FnExactVectorText_need (⟨a0_0, a0_1, a0_2⟩ : Vec)) (.leaf (laws_FnExactVectorText_mk (laws_FnExactVectorText (⟨a0_0, a0_1, a0_2⟩ : Vec)))))
  | _ => none
set_option maxRecDepth 100000 in
theorem laws_FnExactVectorText_ok : FunOK Tryd.prog 3 laws_FnExactVectorText_c.fn := by
  refine con_ok (Γ := gam [(14, laws_toVector_c), (13, spec_VectorText_c), (15, impl_VectorText_c)]) (gam_cons laws_toVector_ok (gam_cons spec_VectorText_ok (gam_cons impl_VectorText_ok (gam_nil)))) tab_ok (by kernel_rfl) Tryd.func3 (by kernel_rfl) (by kernel_rfl) Tryd.ntmps3 Tryd.results3 (loopsOK_none rfl _) 100000 fun args t h => ?_
  unfold laws_FnExactVectorText_c at h
  split at h
  · rename_i a0_0 a0_1 a0_2
    cases h
    exact ⟨rfl, agree_need (mk := laws_FnExactVectorText_mk) (t := laws_FnExactVectorText_tree (⟨a0_0, a0_1, a0_2⟩ : Vec)) (by unfold Agree; kernel_rfl)⟩
  · cases h

/-- loop.example/g01284/laws.toBall -/
def laws_toBall_tree (a0 : Ball) : DT (Ball) :=
  .leaf ((⟨a0.Mass, a0.Radius, a0.Spin, a0.Start⟩ : Ball))
def laws_toBall (a0 : Ball) : Ball := (laws_toBall_tree a0).val
def laws_toBall_mk (p : Ball) : Ret := ⟨.agg [.flt .f32 p.Mass, .flt .f32 p.Radius, .flt .f32 p.Spin, .flt .f32 p.Start], []⟩
def laws_toBall_c : Con := fun args => match args with
  | [.agg [.flt .f32 a0_0, .flt .f32 a0_1, .flt .f32 a0_2, .flt .f32 a0_3]] => some (.leaf (laws_toBall_mk (laws_toBall (⟨a0_0, a0_1, a0_2, a0_3⟩ : Ball))))
  | _ => none
set_option maxRecDepth 100000 in
theorem laws_toBall_ok : FunOK Tryd.prog 17 laws_toBall_c.fn := by
  refine con_ok (Γ := gam []) (gam_nil) tab_ok (by kernel_rfl) Tryd.func17 (by kernel_rfl) (by kernel_rfl) Tryd.ntmps17 Tryd.results17 (loopsOK_none rfl _) 100000 fun args t h => ?_
  unfold laws_toBall_c at h
  split at h
  · rename_i a0_0 a0_1 a0_2 a0_3
    cases h
    exact ⟨rfl, agree_tot (mk := laws_toBall_mk) (t := laws_toBall_tree (⟨a0_0, a0_1, a0_2, a0_3⟩ : Ball)) (by unfold Agree; kernel_rfl) (by kernel_rfl)⟩
  · cases h

/-- loop.example/g01284/spec.l01Finite -/
def spec_l01Finite_tree (a0 : Nat) : DT (Bool) :=
  let x0 := fsub .f32 a0 a0;
  let x1 := feq .f32 x0 0;
  .leaf x1
def spec_l01Finite (a0 : Nat) : Bool := (spec_l01Finite_tree a0).val
def spec_l01Finite_mk (p : Bool) : Ret := ⟨.bool p, []⟩
def spec_l01Finite_c : Con := fun args => match args with
  | [.flt .f32 a0] => some (.leaf (spec_l01Finite_mk (spec_l01Finite a0)))
  | _ => none
set_option maxRecDepth 100000 in
theorem spec_l01Finite_ok : FunOK Tryd.prog 94 spec_l01Finite_c.fn := by
  refine con_ok (Γ := gam []) (gam_nil) tab_ok (by kernel_rfl) Tryd.func94 (by kernel_rfl) (by kernel_rfl) Tryd.ntmps94 Tryd.results94 (loopsOK_none rfl _) 100000 fun args t h => ?_
  unfold spec_l01Finite_c at h
  split at h
  · rename_i a0
    cases h
    exact ⟨rfl, agree_tot (mk := spec_l01Finite_mk) (t := spec_l01Finite_tree a0) (by unfold Agree; kernel_rfl) (by kernel_rfl)⟩
  · cases h

/-- loop.example/g01284/spec.l02Above -/
def spec_l02Above_tree (a0 : Nat) : DT (Bool) :=
  let x0 := spec_l01Finite a0;
  .ask x0
  (
   let x1 := fgt .f32 a0 0;
   .leaf x1)
  (
   .leaf false)
def spec_l02Above (a0 : Nat) : Bool := (spec_l02Above_tree a0).val
def spec_l02Above_mk (p : Bool) : Ret := ⟨.bool p, []⟩
def spec_l02Above_c : Con := fun args => match args with
  | [.flt .f32 a0] => some (.leaf (spec_l02Above_mk (spec_l02Above a0)))
  | _ => none
set_option maxRecDepth 100000 in
theorem spec_l02Above_ok : FunOK Tryd.prog 93 spec_l02Above_c.fn := by
  refine con_ok (Γ := gam [(94, spec_l01Finite_c)]) (gam_cons spec_l01Finite_ok (gam_nil)) tab_ok (by kernel_rfl) Tryd.func93 (by kernel_rfl) (by kernel_rfl) Tryd.ntmps93 Tryd.results93 (loopsOK_none rfl _) 100000 fun args t h => ?_
  unfold spec_l02Above_c at h
  split at h
  · rename_i a0
    cases h
    exact ⟨rfl, agree_tot (mk := spec_l02Above_mk) (t := spec_l02Above_tree a0) (by unfold Agree; kernel_rfl) (by kernel_rfl)⟩
  · cases h

/-- loop.example/g01284/spec.l06Ball -/
def spec_l06Ball_tree (a0 : Ball) : DT (Bool) :=
  let x0 := spec_l02Above a0.Mass;
  .ask x0
  (
   let x1 := spec_l02Above a0.Radius;
   .ask x1
   (
    let x2 := spec_l01Finite a0.Spin;
    .ask x2
    (
     let x3 := spec_l01Finite a0.Start;
     .leaf x3)
    (
     .leaf false))
   (
    .leaf false))
  (
   .leaf false)
def spec_l06Ball (a0 : Ball) : Bool := (spec_l06Ball_tree a0).val
def spec_l06Ball_mk (p : Bool) : Ret := ⟨.bool p, []⟩
def spec_l06Ball_c0 : Con := fun args => match args with
  | [.vcell [.flt .f32 a0_0, .flt .f32 a0_1, .flt .f32 a0_2, .flt .f32 a0_3] 0] => some (.leaf (spec_l06Ball_mk (spec_l06Ball (⟨a0_0, a0_1, a0_2, a0_3⟩ : Ball))))
  | _ => none
set_option maxRecDepth 100000 in
theorem spec_l06Ball_ok0 : FunOK Tryd.prog 52 spec_l06Ball_c0.fn := by
  refine con_ok (Γ := gam [(93, spec_l02Above_c), (94, spec_l01Finite_c)]) (gam_cons spec_l02Above_ok (gam_cons spec_l01Finite_ok (gam_nil))) tab_ok (by kernel_rfl) Tryd.func52 (by kernel_rfl) (by kernel_rfl) Tryd.ntmps52 Tryd.results52 (loopsOK_none rfl _) 100000 fun args t h => ?_
  unfold spec_l06Ball_c0 at h
  split at h
  · rename_i a0_0 a0_1 a0_2 a0_3
    cases h
    exact ⟨rfl, agree_tot (mk := spec_l06Ball_mk) (t := spec_l06Ball_tree (⟨a0_0, a0_1, a0_2, a0_3⟩ : Ball)) (by unfold Agree; kernel_rfl) (by kernel_rfl)⟩
  · cases h
def spec_l06Ball_c : Con := fun args => spec_l06Ball_c0 (norms 0 [.ptr 4] args)
set_option maxRecDepth 100000 in
theorem spec_l06Ball_ok : FunOK Tryd.prog 52 spec_l06Ball_c.fn := con_norm [.ptr 4] spec_l06Ball_ok0

/-- loop.example/g01284/spec.l08Ball -/
def spec_l08Ball_tree (a0 : Ball) : DT ((List UInt8)) :=
  .need ((spec_l01NText_need ([a0.Mass, a0.Radius, a0.Spin, a0.Start]))) (
  let x0 := spec_l01NText ([a0.Mass, a0.Radius, a0.Spin, a0.Start]);
  .leaf x0)
def spec_l08Ball (a0 : Ball) : (List UInt8) := (spec_l08Ball_tree a0).val
def spec_l08Ball_need (a0 : Ball) : Bool := (spec_l08Ball_tree a0).ok
def spec_l08Ball_mk (p : (List UInt8)) : Ret := ⟨.str p, []⟩
def spec_l08Ball_c0 : Con := fun args => match args with
  | [.vcell [.flt .f32 a0_0, .flt .f32 a0_1, .flt .f32 a0_2, .flt .f32 a0_3] 0] => some (.need (spec_l08Ball_need (⟨a0_0, a0_1, a0_2, a0_3⟩ : Ball)) (.leaf (spec_l08Ball_mk (spec_l08Ball (⟨a0_0, a0_1, a0_2, a0_3⟩ : Ball)))))
  | _ => none
set_option maxRecDepth 100000 in
theorem spec_l08Ball_ok0 : FunOK Tryd.prog 53 spec_l08Ball_c0.fn := by
  refine con_ok (Γ := gam [(57, spec_l01NText_c)]) (gam_cons spec_l01NText_ok (gam_nil)) tab_ok (by kernel_rfl) Tryd.func53 (by kernel_rfl) (by kernel_rfl) Tryd.ntmps53 Tryd.results53 (loopsOK_none rfl _) 100000 fun args t h => ?_
  unfold spec_l08Ball_c0 at h
  split at h
  · rename_i a0_0 a0_1 a0_2 a0_3
    cases h
    exact ⟨rfl, agree_need (mk := spec_l08Ball_mk) (t := spec_l08Ball_tree (⟨a0_0, a0_1, a0_2, a0_3⟩ : Ball)) (by unfold Agree; kernel_rfl)⟩
  · cases h
def spec_l08Ball_c : Con := fun args => spec_l08Ball_c0 (norms 0 [.ptr 4] args)
set_option maxRecDepth 100000 in
theorem spec_l08Ball_ok : FunOK Tryd.prog 53 spec_l08Ball_c.fn := con_norm [.ptr 4] spec_l08Ball_ok0

/-- loop.example/g01284/spec.BallText -/
def spec_BallText_tree (a0 : Ball) : DT ((List UInt8) × Bool) :=
  let x0 := spec_l06Ball (⟨a0.Mass, a0.Radius, a0.Spin, a0.Start⟩ : Ball);
  .ask (!x0)
  (
   .leaf ([], false))
  (
   .need ((spec_l08Ball_need (⟨a0.Mass, a0.Radius, a0.Spin, a0.Start⟩ : Ball))) (
   let x1 := spec_l08Ball (⟨a0.Mass, a0.Radius, a0.Spin, a0.Start⟩ : Ball);
   .leaf (x1, true)))
def spec_BallText (a0 : Ball) : (List UInt8) × Bool := (spec_BallText_tree a0).val
def spec_BallText_need (a0 : Ball) : Bool := (spec_BallText_tree a0).ok
def spec_BallText_mk (p : (List UInt8) × Bool) : Ret := ⟨.tup [.str p.1, .bool p.2], []⟩
def spec_BallText_c : Con := fun args => match args with
  | [.agg [.flt .f32 a0_0, .flt .f32 a0_1, .flt .f32 a0_2, .flt .f32 a0_3]] => some (.need (spec_BallText_need (⟨a0_0, a0_1, a0_2, a0_3⟩ : Ball)) (.leaf (spec_BallText_mk (spec_BallText (⟨a0_0, a0_1, a0_2, a0_3⟩ : Ball)))))
  | _ => none
set_option maxRecDepth 100000 in
theorem spec_BallText_ok : FunOK Tryd.prog 16 spec_BallText_c.fn := by
  refine con_ok (Γ := gam [(52, spec_l06Ball_c), (53, spec_l08Ball_c)]) (gam_cons spec_l06Ball_ok (gam_cons spec_l08Ball_ok (gam_nil))) tab_ok (by kernel_rfl) Tryd.func16 (by kernel_rfl) (by kernel_rfl) Tryd.ntmps16 Tryd.results16 (loopsOK_none rfl _) 100000 fun args t h => ?_
  unfold spec_BallText_c at h
  split at h
  · rename_i a0_0 a0_1 a0_2 a0_3
    cases h
    exact ⟨rfl, agree_need (mk := spec_BallText_mk) (t := spec_BallText_tree (⟨a0_0, a0_1, a0_2, a0_3⟩ : Ball)) (by unfold Agree; kernel_rfl)⟩
  · cases h

/-- math.IsNaN -/
def math_IsNaN_tree (a0 : Nat) : DT (Bool) :=
  let x0 := fne .f64 a0 a0;
  .leaf x0
def math_IsNaN (a0 : Nat) : Bool := (math_IsNaN_tree a0).val
def math_IsNaN_mk (p : Bool) : Ret := ⟨.bool p, []⟩
def math_IsNaN_c : Con := fun args => match args with
  | [.flt .f64 a0] => some (.leaf (math_IsNaN_mk (math_IsNaN a0)))
  | _ => none
set_option maxRecDepth 100000 in
theorem math_IsNaN_ok : FunOK Tryd.prog 148 math_IsNaN_c.fn := by
  refine con_ok (Γ := gam []) (gam_nil) tab_ok (by kernel_rfl) Tryd.func148 (by kernel_rfl) (by kernel_rfl) Tryd.ntmps148 Tryd.results148 (loopsOK_none rfl _) 100000 fun args t h => ?_
  unfold math_IsNaN_c at h
  split at h
  · rename_i a0
    cases h
    exact ⟨rfl, agree_tot (mk := math_IsNaN_mk) (t := math_IsNaN_tree a0) (by unfold Agree; kernel_rfl) (by kernel_rfl)⟩
  · cases h

/-- math.Abs -/
def math_Abs_tree (a0 : Nat) : DT (Nat) :=
  .ask ((isNaN .f64 a0))
  (
   .leaf 9221120237041090560)
  (
   let x0 := IntKind.wrap .u64 (BitVec.ofInt (IntKind.bits .u64) ((a0 : Nat) : Int) &&& ~~~ BitVec.ofInt (IntKind.bits .u64) 9223372036854775808).toNat;
   let x1 := canon .f64 (Int.toNat x0);
   .leaf x1)
def math_Abs (a0 : Nat) : Nat := (math_Abs_tree a0).val
def math_Abs_mk (p : Nat) : Ret := ⟨.flt .f64 p, []⟩
def math_Abs_c : Con := fun args => match args with
  | [.flt .f64 a0] => some (.leaf (math_Abs_mk (math_Abs a0)))
  | _ => none
set_option maxRecDepth 100000 in
theorem math_Abs_ok : FunOK Tryd.prog 166 math_Abs_c.fn := by
  refine con_ok (Γ := gam [(185, math_Float64bits_c), (184, math_Float64frombits_c)]) (gam_cons math_Float64bits_ok (gam_cons math_Float64frombits_ok (gam_nil))) tab_ok (by kernel_rfl) Tryd.func166 (by kernel_rfl) (by kernel_rfl) Tryd.ntmps166 Tryd.results166 (loopsOK_none rfl _) 100000 fun args t h => ?_
  unfold math_Abs_c at h
  split at h
  · rename_i a0
    cases h
    exact ⟨rfl, agree_tot (mk := math_Abs_mk) (t := math_Abs_tree a0) (by unfold Agree; kernel_rfl) (by kernel_rfl)⟩
  · cases h

/-- math.IsInf -/
def math_IsInf_tree (a0 : Nat) (a1 : Int) : DT (Bool) :=
  let x0 := (a1 == 0);
  .ask x0
  (
   let x1 := math_Abs a0;
   let x2 := fgt .f64 x1 9218868437227405311;
   .leaf x2)
  (
   let x1 := decide (a1 < 0);
   .ask x1
   (
    let x2 := fneg .f64 a0;
    let x3 := fgt .f64 x2 9218868437227405311;
    .leaf x3)
   (
    let x2 := fgt .f64 a0 9218868437227405311;
    .leaf x2))
def math_IsInf (a0 : Nat) (a1 : Int) : Bool := (math_IsInf_tree a0 a1).val
def math_IsInf_mk (p : Bool) : Ret := ⟨.bool p, []⟩
def math_IsInf_c : Con := fun args => match args with
  | [.flt .f64 a0, .int .i64 a1] => some (.leaf (math_IsInf_mk (math_IsInf a0 a1)))
  | _ => none
set_option maxRecDepth 100000 in
theorem math_IsInf_ok : FunOK Tryd.prog 149 math_IsInf_c.fn := by
  refine con_ok (Γ := gam [(166, math_Abs_c)]) (gam_cons math_Abs_ok (gam_nil)) tab_ok (by kernel_rfl) Tryd.func149 (by kernel_rfl) (by kernel_rfl) Tryd.ntmps149 Tryd.results149 (loopsOK_none rfl _) 100000 fun args t h => ?_
  unfold math_IsInf_c at h
  split at h
  · rename_i a0 a1
    cases h
    exact ⟨rfl, agree_tot (mk := math_IsInf_mk) (t := math_IsInf_tree a0 a1) (by unfold Agree; kernel_rfl) (by kernel_rfl)⟩
  · cases h

/-- loop.example/g01284/impl.finite -/
def impl_finite_tree (a0 : Nat) : DT (Bool) :=
  let x0 := math_IsNaN a0;
  .ask (!x0)
  (
   let x1 := math_IsInf a0 0;
   .leaf (!x1))
  (
   .leaf false)
def impl_finite (a0 : Nat) : Bool := (impl_finite_tree a0).val
def impl_finite_mk (p : Bool) : Ret := ⟨.bool p, []⟩
def impl_finite_c : Con := fun args => match args with
  | [.flt .f64 a0] => some (.leaf (impl_finite_mk (impl_finite a0)))
  | _ => none
set_option maxRecDepth 100000 in
theorem impl_finite_ok : FunOK Tryd.prog 133 impl_finite_c.fn := by
  refine con_ok (Γ := gam [(148, math_IsNaN_c), (149, math_IsInf_c)]) (gam_cons math_IsNaN_ok (gam_cons math_IsInf_ok (gam_nil))) tab_ok (by kernel_rfl) Tryd.func133 (by kernel_rfl) (by kernel_rfl) Tryd.ntmps133 Tryd.results133 (loopsOK_none rfl _) 100000 fun args t h => ?_
  unfold impl_finite_c at h
  split at h
  · rename_i a0
    cases h
    exact ⟨rfl, agree_tot (mk := impl_finite_mk) (t := impl_finite_tree a0) (by unfold Agree; kernel_rfl) (by kernel_rfl)⟩
  · cases h

/-- loop.example/g01284/impl.IsFinite -/
def impl_IsFinite_tree (a0 : Nat) : DT (Bool) :=
  .need ((fconvOk .f32 a0 .f64)) (
  let x0 := fconv .f32 a0 .f64;
  let x1 := impl_finite x0;
  .leaf x1)
def impl_IsFinite (a0 : Nat) : Bool := (impl_IsFinite_tree a0).val
def impl_IsFinite_need (a0 : Nat) : Bool := (impl_IsFinite_tree a0).ok
def impl_IsFinite_mk (p : Bool) : Ret := ⟨.bool p, []⟩
def impl_IsFinite_c : Con := fun args => match args with
  | [.flt .f32 a0] => some (.need (impl_IsFinite_need a0) (.leaf (impl_IsFinite_mk (impl_IsFinite a0))))
  | _ => none
set_option maxRecDepth 100000 in
theorem impl_IsFinite_ok : FunOK Tryd.prog 106 impl_IsFinite_c.fn := by
  refine con_ok (Γ := gam [(133, impl_finite_c)]) (gam_cons impl_finite_ok (gam_nil)) tab_ok (by kernel_rfl) Tryd.func106 (by kernel_rfl) (by kernel_rfl) Tryd.ntmps106 Tryd.results106 (loopsOK_none rfl _) 100000 fun args t h => ?_
  unfold impl_IsFinite_c at h
  split at h
  · rename_i a0
    cases h
    exact ⟨rfl, agree_need (mk := impl_IsFinite_mk) (t := impl_IsFinite_tree a0) (by unfold Agree; kernel_rfl)⟩
  · cases h

/-- loop.example/g01284/impl.aLength -/
def impl_aLength_tree (a0 : Nat) : DT (Bool) :=
  .need ((impl_IsFinite_need a0)) (
  let x0 := impl_IsFinite a0;
  .ask x0
  (
   let x1 := fgt .f32 a0 0;
   .leaf x1)
  (
   .leaf false))
def impl_aLength (a0 : Nat) : Bool := (impl_aLength_tree a0).val
def impl_aLength_need (a0 : Nat) : Bool := (impl_aLength_tree a0).ok
def impl_aLength_mk (p : Bool) : Ret := ⟨.bool p, []⟩
def impl_aLength_c : Con := fun args => match args with
  | [.flt .f32 a0] => some (.need (impl_aLength_need a0) (.leaf (impl_aLength_mk (impl_aLength a0))))
  | _ => none
set_option maxRecDepth 100000 in
theorem impl_aLength_ok : FunOK Tryd.prog 126 impl_aLength_c.fn := by
  refine con_ok (Γ := gam [(106, impl_IsFinite_c)]) (gam_cons impl_IsFinite_ok (gam_nil)) tab_ok (by kernel_rfl) Tryd.func126 (by kernel_rfl) (by kernel_rfl) Tryd.ntmps126 Tryd.results126 (loopsOK_none rfl _) 100000 fun args t h => ?_
  unfold impl_aLength_c at h
  split at h
  · rename_i a0
    cases h
    exact ⟨rfl, agree_need (mk := impl_aLength_mk) (t := impl_aLength_tree a0) (by unfold Agree; kernel_rfl)⟩
  · cases h

/-- a loop of impl_areLengths -/
def impl_areLengths_loop0_step (p : List Nat × Int) (s : Int) : Round (Int) ((Unit) ⊕ (Unit)) :=
  let x0 := decide (s < p.2);
  .ask x0
  (
   .need ((decide (0 ≤ s) && decide (s < ((List.length p.1 : Nat) : Int)))) (
   let x1 := List.getD p.1 (Int.toNat s) default;
   .need ((impl_aLength_need x1)) (
   let x2 := impl_aLength x1;
   .ask (!x2)
   (
    .leaf (.inr (.inl ()), []))
   (
    let x3 := IntKind.wrap .i64 (s + 1);
    .leaf (.inl x3, [])))))
  (
   .leaf (.inr (.inr ()), []))
def impl_areLengths_loop0_L (p : List Nat × Int) : LoopS (Int) ((Unit) ⊕ (Unit)) := { tl := fun s => [.junk, .junk, .junk, .junk, .junk, .vslc 1 (.flt .f32) p.1, .int .i64 p.2, .int .i64 s], hl := fun s => [], ex := fun r => match r with | .inl r => .ret | .inr r => .exit 0, otl := fun r => match r with | .inl r => [.junk, .junk, .bool false] | .inr r => [.junk], ohl := fun r => match r with | .inl r => [] | .inr r => [] }
def impl_areLengths_loop0_ext : St → Option ((List Nat × Int) × (Int) × List Nat) := fun S => match (S.tm 5).unK, (S.tm 6).unK, (S.tm 7).unK with
  | .vslc 1 (.flt .f32) q0, .int .i64 q1, .int .i64 q2 => some ((q0, q1), q2, [])
  | _, _, _ => none
def impl_areLengths_loop0_post (p : List Nat × Int) (r : (Unit) ⊕ (Unit)) : DT (Ex × St) := .ask (isL r) (.leaf (.ret, LSt [.junk, .junk, .bool false] [])) (.leaf (.exit 0, LSt [.junk] []))
def impl_areLengths_loop0 (p : List Nat × Int) (s : Int) : (Unit) ⊕ (Unit) := loopVal (impl_areLengths_loop0_step p) s
def impl_areLengths_loop0_ends (p : List Nat × Int) (s : Int) : Bool := loopEnds (impl_areLengths_loop0_step p) s
def impl_areLengths_loop0_F : LoopF := loopF impl_areLengths_loop0_step impl_areLengths_loop0_ext impl_areLengths_loop0_post
theorem impl_areLengths_loop0_hext : ∀ S p s fl, impl_areLengths_loop0_ext S = some (p, s, fl) → Norm S fl ((impl_areLengths_loop0_L p).tl s) ((impl_areLengths_loop0_L p).hl s) (impl_areLengths_loop0_L p).gl := by
  intro S p s fl h
  unfold impl_areLengths_loop0_ext at h
  (repeat' split at h) <;> first
    | (cases h; constructor <;> simp_all [impl_areLengths_loop0_L, keepT, keepH, rens, renH, PV.ren, Blk.ren, fOf, lget, nodup, natIn, lenEq, gtm, PV.unK])
    | cases h
theorem impl_areLengths_loop0_hpost : ∀ p r e S', (impl_areLengths_loop0_post p r).get = some (e, S') → e = (impl_areLengths_loop0_L p).ex r ∧ S' = LSt ((impl_areLengths_loop0_L p).otl r) ((impl_areLengths_loop0_L p).ohl r) ((impl_areLengths_loop0_L p).ogl r) := by
  intro p r e S' h
  unfold impl_areLengths_loop0_post at h
  cases r <;> (simp only [isL, DT.get, Option.some.injEq, Prod.mk.injEq] at h; exact ⟨h.1.symm, h.2.symm⟩)

def impl_areLengths_loops : Nat → Option LoopF := loopTab [(2, impl_areLengths_loop0_F)]
set_option maxRecDepth 100000 in
theorem impl_areLengths_l0 : LoopOK Tryd.prog ⟨gam [(126, impl_aLength_c)], tab, 15, impl_areLengths_loops⟩ (lp Tryd.f95 0) :=
  loopOK_some (F := impl_areLengths_loop0_F) (by kernel_rfl) (loopF_ok (E := ⟨gam [(126, impl_aLength_c)], tab, 15, impl_areLengths_loops⟩) ⟨gam_cons impl_aLength_ok (gam_nil), tab_ok, by kernel_rfl⟩ (fuel := 100000) (loopsOK_list (l := []) (by kernel_rfl) trivial) (L := impl_areLengths_loop0_L) (fun p s => by unfold AgreeL; exact ⟨by kernel_rfl, by kernel_rfl⟩) (fun _ r h => by cases r <;> exact Ex.noConfusion h) impl_areLengths_loop0_hext impl_areLengths_loop0_hpost)
/-- loop.example/g01284/impl.areLengths -/
def impl_areLengths_tree (a0 : List Nat) : DT (Bool) :=
  let x0 := ((List.length a0 : Nat) : Int);
  .need ((impl_areLengths_loop0_ends (a0, x0) 0)) (
  let x1 := impl_areLengths_loop0 (a0, x0) 0;
  .ask ((isL x1))
  (
   .leaf false)
  (
   .leaf true))
def impl_areLengths (a0 : List Nat) : Bool := (impl_areLengths_tree a0).val
def impl_areLengths_need (a0 : List Nat) : Bool := (impl_areLengths_tree a0).ok
def impl_areLengths_mk (p : Bool) : Ret := ⟨.bool p, []⟩
def impl_areLengths_c0 : Con := fun args => match args with
  | [.vslc 1 (.flt .f32) a0] => some (.need (impl_areLengths_need a0) (.leaf (impl_areLengths_mk (impl_areLengths a0))))
  | _ => none
set_option maxRecDepth 100000 in
theorem impl_areLengths_ok0 : FunOK Tryd.prog 95 impl_areLengths_c0.fn := by
  refine con_ok (Γ := gam [(126, impl_aLength_c)]) (gam_cons impl_aLength_ok (gam_nil)) tab_ok (by kernel_rfl) Tryd.func95 (by kernel_rfl) (by kernel_rfl) Tryd.ntmps95 Tryd.results95 (loops := impl_areLengths_loops) (loopsOK_list (l := [lp Tryd.f95 0]) (by kernel_rfl) ⟨impl_areLengths_l0, trivial⟩) 100000 fun args t h => ?_
  unfold impl_areLengths_c0 at h
  split at h
  · rename_i a0
    cases h
    exact ⟨rfl, agree_need (mk := impl_areLengths_mk) (t := impl_areLengths_tree a0) (by unfold Agree; kernel_rfl)⟩
  · cases h
def impl_areLengths_c : Con := fun args => impl_areLengths_c0 (norms 0 [.slc (.flt .f32)] args)
set_option maxRecDepth 100000 in
theorem impl_areLengths_ok : FunOK Tryd.prog 95 impl_areLengths_c.fn := con_norm [.slc (.flt .f32)] impl_areLengths_ok0

/-- loop.example/g01284/impl.areFinite$1 -/
def impl_areFinite_1_tree (a0 : Nat) : DT (Bool) :=
  .need ((impl_IsFinite_need a0)) (
  let x0 := impl_IsFinite a0;
  .leaf (!x0))
def impl_areFinite_1 (a0 : Nat) : Bool := (impl_areFinite_1_tree a0).val
def impl_areFinite_1_need (a0 : Nat) : Bool := (impl_areFinite_1_tree a0).ok
def impl_areFinite_1_mk (p : Bool) : Ret := ⟨.bool p, []⟩
def impl_areFinite_1_c : Con := fun args => match args with
  | [.flt .f32 a0] => some (.need (impl_areFinite_1_need a0) (.leaf (impl_areFinite_1_mk (impl_areFinite_1 a0))))
  | _ => none
set_option maxRecDepth 100000 in
theorem impl_areFinite_1_ok : FunOK Tryd.prog 128 impl_areFinite_1_c.fn := by
  refine con_ok (Γ := gam [(106, impl_IsFinite_c)]) (gam_cons impl_IsFinite_ok (gam_nil)) tab_ok (by kernel_rfl) Tryd.func128 (by kernel_rfl) (by kernel_rfl) Tryd.ntmps128 Tryd.results128 (loopsOK_none rfl _) 100000 fun args t h => ?_
  unfold impl_areFinite_1_c at h
  split at h
  · rename_i a0
    cases h
    exact ⟨rfl, agree_need (mk := impl_areFinite_1_mk) (t := impl_areFinite_1_tree a0) (by unfold Agree; kernel_rfl)⟩
  · cases h

/-- a loop of slices_IndexFunc___float32_float32__impl_areFinite_1 -/
def slices_IndexFunc___float32_float32__impl_areFinite_1_loop0_step (p : List Nat × Int) (s : Int) : Round (Int) ((Int) ⊕ (Unit)) :=
  let x0 := decide (s < p.2);
  .ask x0
  (
   .need ((decide (0 ≤ s) && decide (s < ((List.length p.1 : Nat) : Int)))) (
   let x1 := List.getD p.1 (Int.toNat s) default;
   .need ((impl_areFinite_1_need x1)) (
   let x2 := impl_areFinite_1 x1;
   .ask x2
   (
    .leaf (.inr (.inl s), []))
   (
    let x3 := IntKind.wrap .i64 (s + 1);
    .leaf (.inl x3, [])))))
  (
   .leaf (.inr (.inr ()), []))
def slices_IndexFunc___float32_float32__impl_areFinite_1_loop0_L (p : List Nat × Int) : LoopS (Int) ((Int) ⊕ (Unit)) := { tl := fun s => [.vslc 1 (.flt .f32) p.1, .func (.func 128) [] [], .junk, .junk, .junk, .junk, .junk, .int .i64 p.2, .int .i64 s], hl := fun s => [], ex := fun r => match r with | .inl r => .ret | .inr r => .exit 0, otl := fun r => match r with | .inl r => [.junk, .junk, .junk, .junk, .int .i64 r] | .inr r => [.junk], ohl := fun r => match r with | .inl r => [] | .inr r => [] }
def slices_IndexFunc___float32_float32__impl_areFinite_1_loop0_ext : St → Option ((List Nat × Int) × (Int) × List Nat) := fun S => match (S.tm 0).unK, (S.tm 1).unK, (S.tm 7).unK, (S.tm 8).unK with
  | .vslc 1 (.flt .f32) q0, .func (.func 128) [] [], .int .i64 q1, .int .i64 q2 => some ((q0, q1), q2, [])
  | _, _, _, _ => none
def slices_IndexFunc___float32_float32__impl_areFinite_1_loop0_post (p : List Nat × Int) (r : (Int) ⊕ (Unit)) : DT (Ex × St) := .ask (isL r) (.leaf (.ret, LSt [.junk, .junk, .junk, .junk, .int .i64 ((leftD r))] [])) (.leaf (.exit 0, LSt [.junk] []))
def slices_IndexFunc___float32_float32__impl_areFinite_1_loop0 (p : List Nat × Int) (s : Int) : (Int) ⊕ (Unit) := loopVal (slices_IndexFunc___float32_float32__impl_areFinite_1_loop0_step p) s
def slices_IndexFunc___float32_float32__impl_areFinite_1_loop0_ends (p : List Nat × Int) (s : Int) : Bool := loopEnds (slices_IndexFunc___float32_float32__impl_areFinite_1_loop0_step p) s
def slices_IndexFunc___float32_float32__impl_areFinite_1_loop0_F : LoopF := loopF slices_IndexFunc___float32_float32__impl_areFinite_1_loop0_step slices_IndexFunc___float32_float32__impl_areFinite_1_loop0_ext slices_IndexFunc___float32_float32__impl_areFinite_1_loop0_post
theorem slices_IndexFunc___float32_float32__impl_areFinite_1_loop0_hext : ∀ S p s fl, slices_IndexFunc___float32_float32__impl_areFinite_1_loop0_ext S = some (p, s, fl) → Norm S fl ((slices_IndexFunc___float32_float32__impl_areFinite_1_loop0_L p).tl s) ((slices_IndexFunc___float32_float32__impl_areFinite_1_loop0_L p).hl s) (slices_IndexFunc___float32_float32__impl_areFinite_1_loop0_L p).gl := by
  intro S p s fl h
  unfold slices_IndexFunc___float32_float32__impl_areFinite_1_loop0_ext at h
  (repeat' split at h) <;> first
    | (cases h; constructor <;> simp_all [slices_IndexFunc___float32_float32__impl_areFinite_1_loop0_L, keepT, keepH, rens, renH, PV.ren, Blk.ren, fOf, lget, nodup, natIn, lenEq, gtm, PV.unK])
    | cases h
theorem slices_IndexFunc___float32_float32__impl_areFinite_1_loop0_hpost : ∀ p r e S', (slices_IndexFunc___float32_float32__impl_areFinite_1_loop0_post p r).get = some (e, S') → e = (slices_IndexFunc___float32_float32__impl_areFinite_1_loop0_L p).ex r ∧ S' = LSt ((slices_IndexFunc___float32_float32__impl_areFinite_1_loop0_L p).otl r) ((slices_IndexFunc___float32_float32__impl_areFinite_1_loop0_L p).ohl r) ((slices_IndexFunc___float32_float32__impl_areFinite_1_loop0_L p).ogl r) := by
  intro p r e S' h
  unfold slices_IndexFunc___float32_float32__impl_areFinite_1_loop0_post at h
  cases r <;> (simp only [isL, DT.get, Option.some.injEq, Prod.mk.injEq] at h; exact ⟨h.1.symm, h.2.symm⟩)

def slices_IndexFunc___float32_float32__impl_areFinite_1_loops : Nat → Option LoopF := loopTab [(2, slices_IndexFunc___float32_float32__impl_areFinite_1_loop0_F)]
set_option maxRecDepth 100000 in
theorem slices_IndexFunc___float32_float32__impl_areFinite_1_l0 : LoopOK Tryd.prog ⟨gam [(128, impl_areFinite_1_c)], tab, 19, slices_IndexFunc___float32_float32__impl_areFinite_1_loops⟩ (lp Tryd.f147 0) :=
  loopOK_some (F := slices_IndexFunc___float32_float32__impl_areFinite_1_loop0_F) (by kernel_rfl) (loopF_ok (E := ⟨gam [(128, impl_areFinite_1_c)], tab, 19, slices_IndexFunc___float32_float32__impl_areFinite_1_loops⟩) ⟨gam_cons impl_areFinite_1_ok (gam_nil), tab_ok, by kernel_rfl⟩ (fuel := 100000) (loopsOK_list (l := []) (by kernel_rfl) trivial) (L := slices_IndexFunc___float32_float32__impl_areFinite_1_loop0_L) (fun p s => by unfold AgreeL; exact ⟨by kernel_rfl, by kernel_rfl⟩) (fun _ r h => by cases r <;> exact Ex.noConfusion h) slices_IndexFunc___float32_float32__impl_areFinite_1_loop0_hext slices_IndexFunc___float32_float32__impl_areFinite_1_loop0_hpost)
/-- slices.IndexFunc[[]float32,float32] -/
def slices_IndexFunc___float32_float32__impl_areFinite_1_tree (a0 : List Nat) : DT (Int) :=
  let x0 := ((List.length a0 : Nat) : Int);
  .need ((slices_IndexFunc___float32_float32__impl_areFinite_1_loop0_ends (a0, x0) 0)) (
  let x1 := slices_IndexFunc___float32_float32__impl_areFinite_1_loop0 (a0, x0) 0;
  .ask ((isL x1))
  (
   .leaf ((leftD x1)))
  (
   .leaf (-1)))
def slices_IndexFunc___float32_float32__impl_areFinite_1 (a0 : List Nat) : Int := (slices_IndexFunc___float32_float32__impl_areFinite_1_tree a0).val
def slices_IndexFunc___float32_float32__impl_areFinite_1_need (a0 : List Nat) : Bool := (slices_IndexFunc___float32_float32__impl_areFinite_1_tree a0).ok
def slices_IndexFunc___float32_float32__impl_areFinite_1_mk (p : Int) : Ret := ⟨.int .i64 p, []⟩
def slices_IndexFunc___float32_float32__impl_areFinite_1_c0 : Con := fun args => match args with
  | [.vslc 1 (.flt .f32) a0, .func (.func 128) [] []] => some (.need (slices_IndexFunc___float32_float32__impl_areFinite_1_need a0) (.leaf (slices_IndexFunc___float32_float32__impl_areFinite_1_mk (slices_IndexFunc___float32_float32__impl_areFinite_1 a0))))
  | _ => none
set_option maxRecDepth 100000 in
theorem slices_IndexFunc___float32_float32__impl_areFinite_1_ok0 : FunOK Tryd.prog 147 slices_IndexFunc___float32_float32__impl_areFinite_1_c0.fn := by
  refine con_ok (Γ := gam [(128, impl_areFinite_1_c)]) (gam_cons impl_areFinite_1_ok (gam_nil)) tab_ok (by kernel_rfl) Tryd.func147 (by kernel_rfl) (by kernel_rfl) Tryd.ntmps147 Tryd.results147 (loops := slices_IndexFunc___float32_float32__impl_areFinite_1_loops) (loopsOK_list (l := [lp Tryd.f147 0]) (by kernel_rfl) ⟨slices_IndexFunc___float32_float32__impl_areFinite_1_l0, trivial⟩) 100000 fun args t h => ?_
  unfold slices_IndexFunc___float32_float32__impl_areFinite_1_c0 at h
  split at h
  · rename_i a0
    cases h
    exact ⟨rfl, agree_need (mk := slices_IndexFunc___float32_float32__impl_areFinite_1_mk) (t := slices_IndexFunc___float32_float32__impl_areFinite_1_tree a0) (by unfold Agree; kernel_rfl)⟩
  · cases h
def slices_IndexFunc___float32_float32__impl_areFinite_1_c : Con := fun args => slices_IndexFunc___float32_float32__impl_areFinite_1_c0 (norms 0 [.slc (.flt .f32), .none] args)
set_option maxRecDepth 100000 in
theorem slices_IndexFunc___float32_float32__impl_areFinite_1_ok : FunOK Tryd.prog 147 slices_IndexFunc___float32_float32__impl_areFinite_1_c.fn := con_norm [.slc (.flt .f32), .none] slices_IndexFunc___float32_float32__impl_areFinite_1_ok0

/-- slices.ContainsFunc[[]float32,float32] -/
def slices_ContainsFunc___float32_float32__impl_areFinite_1_tree (a0 : List Nat) : DT (Bool) :=
  .need ((slices_IndexFunc___float32_float32__impl_areFinite_1_need a0 )) (
  let x0 := slices_IndexFunc___float32_float32__impl_areFinite_1 a0 ;
  let x1 := decide (x0 ≥ 0);
  .leaf x1)
def slices_ContainsFunc___float32_float32__impl_areFinite_1 (a0 : List Nat) : Bool := (slices_ContainsFunc___float32_float32__impl_areFinite_1_tree a0).val
def slices_ContainsFunc___float32_float32__impl_areFinite_1_need (a0 : List Nat) : Bool := (slices_ContainsFunc___float32_float32__impl_areFinite_1_tree a0).ok
def slices_ContainsFunc___float32_float32__impl_areFinite_1_mk (p : Bool) : Ret := ⟨.bool p, []⟩
def slices_ContainsFunc___float32_float32__impl_areFinite_1_c0 : Con := fun args => match args with
  | [.vslc 1 (.flt .f32) a0, .func (.func 128) [] []] => some (.need (slices_ContainsFunc___float32_float32__impl_areFinite_1_need a0) (.leaf (slices_ContainsFunc___float32_float32__impl_areFinite_1_mk (slices_ContainsFunc___float32_float32__impl_areFinite_1 a0))))
  | _ => none
set_option maxRecDepth 100000 in
theorem slices_ContainsFunc___float32_float32__impl_areFinite_1_ok0 : FunOK Tryd.prog 127 slices_ContainsFunc___float32_float32__impl_areFinite_1_c0.fn := by
  refine con_ok (Γ := gam [(147, slices_IndexFunc___float32_float32__impl_areFinite_1_c)]) (gam_cons slices_IndexFunc___float32_float32__impl_areFinite_1_ok (gam_nil)) tab_ok (by kernel_rfl) Tryd.func127 (by kernel_rfl) (by kernel_rfl) Tryd.ntmps127 Tryd.results127 (loopsOK_none rfl _) 100000 fun args t h => ?_
  unfold slices_ContainsFunc___float32_float32__impl_areFinite_1_c0 at h
  split at h
  · rename_i a0
    cases h
    exact ⟨rfl, agree_need (mk := slices_ContainsFunc___float32_float32__impl_areFinite_1_mk) (t := slices_ContainsFunc___float32_float32__impl_areFinite_1_tree a0) (by unfold Agree; kernel_rfl)⟩
  · cases h
def slices_ContainsFunc___float32_float32__impl_areFinite_1_c : Con := fun args => slices_ContainsFunc___float32_float32__impl_areFinite_1_c0 (norms 0 [.slc (.flt .f32), .none] args)
set_option maxRecDepth 100000 in
theorem slices_ContainsFunc___float32_float32__impl_areFinite_1_ok : FunOK Tryd.prog 127 slices_ContainsFunc___float32_float32__impl_areFinite_1_c.fn := con_norm [.slc (.flt .f32), .none] slices_ContainsFunc___float32_float32__impl_areFinite_1_ok0

/-- loop.example/g01284/impl.areFinite -/
def impl_areFinite_tree (a0 : List Nat) : DT (Bool) :=
  .need ((slices_ContainsFunc___float32_float32__impl_areFinite_1_need a0 )) (
  let x0 := slices_ContainsFunc___float32_float32__impl_areFinite_1 a0 ;
  .leaf (!x0))
def impl_areFinite (a0 : List Nat) : Bool := (impl_areFinite_tree a0).val
def impl_areFinite_need (a0 : List Nat) : Bool := (impl_areFinite_tree a0).ok
def impl_areFinite_mk (p : Bool) : Ret := ⟨.bool p, []⟩
def impl_areFinite_c0 : Con := fun args => match args with
  | [.vslc 1 (.flt .f32) a0] => some (.need (impl_areFinite_need a0) (.leaf (impl_areFinite_mk (impl_areFinite a0))))
  | _ => none
set_option maxRecDepth 100000 in
theorem impl_areFinite_ok0 : FunOK Tryd.prog 96 impl_areFinite_c0.fn := by
  refine con_ok (Γ := gam [(127, slices_ContainsFunc___float32_float32__impl_areFinite_1_c)]) (gam_cons slices_ContainsFunc___float32_float32__impl_areFinite_1_ok (gam_nil)) tab_ok (by kernel_rfl) Tryd.func96 (by kernel_rfl) (by kernel_rfl) Tryd.ntmps96 Tryd.results96 (loopsOK_none rfl _) 100000 fun args t h => ?_
  unfold impl_areFinite_c0 at h
  split at h
  · rename_i a0
    cases h
    exact ⟨rfl, agree_need (mk := impl_areFinite_mk) (t := impl_areFinite_tree a0) (by unfold Agree; kernel_rfl)⟩
  · cases h
def impl_areFinite_c : Con := fun args => impl_areFinite_c0 (norms 0 [.slc (.flt .f32)] args)
set_option maxRecDepth 100000 in
theorem impl_areFinite_ok : FunOK Tryd.prog 96 impl_areFinite_c.fn := con_norm [.slc (.flt .f32)] impl_areFinite_ok0

/-- loop.example/g01284/impl.ValidBall -/
def impl_ValidBall_tree (a0 : Ball) : DT (Bool) :=
  .need ((impl_areLengths_need ([a0.Mass, a0.Radius]))) (
  let x0 := impl_areLengths ([a0.Mass, a0.Radius]);
  .ask x0
  (
   .need ((impl_areFinite_need ([a0.Spin, a0.Start]))) (
   let x1 := impl_areFinite ([a0.Spin, a0.Start]);
   .leaf x1))
  (
   .leaf false))
def impl_ValidBall (a0 : Ball) : Bool := (impl_ValidBall_tree a0).val
def impl_ValidBall_need (a0 : Ball) : Bool := (impl_ValidBall_tree a0).ok
def impl_ValidBall_mk (p : Bool) : Ret := ⟨.bool p, []⟩
def impl_ValidBall_c : Con := fun args => match args with
  | [.agg [.flt .f32 a0_0, .flt .f32 a0_1, .flt .f32 a0_2, .flt .f32 a0_3]] => some (.need (impl_ValidBall_need (⟨a0_0, a0_1, a0_2, a0_3⟩ : Ball)) (.leaf (impl_ValidBall_mk (impl_ValidBall (⟨a0_0, a0_1, a0_2, a0_3⟩ : Ball)))))
  | _ => none
set_option maxRecDepth 100000 in
theorem impl_ValidBall_ok : FunOK Tryd.prog 54 impl_ValidBall_c.fn := by
  refine con_ok (Γ := gam [(95, impl_areLengths_c), (96, impl_areFinite_c)]) (gam_cons impl_areLengths_ok (gam_cons impl_areFinite_ok (gam_nil))) tab_ok (by kernel_rfl) Tryd.func54 (by kernel_rfl) (by kernel_rfl) Tryd.ntmps54 Tryd.results54 (loopsOK_none rfl _) 100000 fun args t h => ?_
  unfold impl_ValidBall_c at h
  split at h
  · rename_i a0_0 a0_1 a0_2 a0_3
    cases h
    exact ⟨rfl, agree_need (mk := impl_ValidBall_mk) (t := impl_ValidBall_tree (⟨a0_0, a0_1, a0_2, a0_3⟩ : Ball)) (by unfold Agree; kernel_rfl)⟩
  · cases h

/-- loop.example/g01284/impl.few -/
def impl_few_tree (a0 : List Nat) : DT ((List UInt8)) :=
  .need ((impl_NumbersText_need a0)) (
  let x0 := impl_NumbersText a0;
  .leaf x0.1)
def impl_few (a0 : List Nat) : (List UInt8) := (impl_few_tree a0).val
def impl_few_need (a0 : List Nat) : Bool := (impl_few_tree a0).ok
def impl_few_mk (p : (List UInt8)) : Ret := ⟨.str p, []⟩
def impl_few_c0 : Con := fun args => match args with
  | [.vslc 1 (.flt .f32) a0] => some (.need (impl_few_need a0) (.leaf (impl_few_mk (impl_few a0))))
  | _ => none
set_option maxRecDepth 100000 in
theorem impl_few_ok0 : FunOK Tryd.prog 55 impl_few_c0.fn := by
  refine con_ok (Γ := gam [(50, impl_NumbersText_c)]) (gam_cons impl_NumbersText_ok (gam_nil)) tab_ok (by kernel_rfl) Tryd.func55 (by kernel_rfl) (by kernel_rfl) Tryd.ntmps55 Tryd.results55 (loopsOK_none rfl _) 100000 fun args t h => ?_
  unfold impl_few_c0 at h
  split at h
  · rename_i a0
    cases h
    exact ⟨rfl, agree_need (mk := impl_few_mk) (t := impl_few_tree a0) (by unfold Agree; kernel_rfl)⟩
  · cases h
def impl_few_c : Con := fun args => impl_few_c0 (norms 0 [.slc (.flt .f32)] args)
set_option maxRecDepth 100000 in
theorem impl_few_ok : FunOK Tryd.prog 55 impl_few_c.fn := con_norm [.slc (.flt .f32)] impl_few_ok0

/-- loop.example/g01284/impl.BallText -/
def impl_BallText_tree (a0 : Ball) : DT ((List UInt8) × Bool) :=
  .need ((impl_ValidBall_need (⟨a0.Mass, a0.Radius, a0.Spin, a0.Start⟩ : Ball))) (
  let x0 := impl_ValidBall (⟨a0.Mass, a0.Radius, a0.Spin, a0.Start⟩ : Ball);
  .ask (!x0)
  (
   .leaf ([], false))
  (
   .need ((impl_few_need ([a0.Mass, a0.Radius, a0.Spin, a0.Start]))) (
   let x1 := impl_few ([a0.Mass, a0.Radius, a0.Spin, a0.Start]);
   .leaf (x1, true))))
def impl_BallText (a0 : Ball) : (List UInt8) × Bool := (impl_BallText_tree a0).val
def impl_BallText_need (a0 : Ball) : Bool := (impl_BallText_tree a0).ok
def impl_BallText_mk (p : (List UInt8) × Bool) : Ret := ⟨.tup [.str p.1, .bool p.2], []⟩
def impl_BallText_c : Con := fun args => match args with
  | [.agg [.flt .f32 a0_0, .flt .f32 a0_1, .flt .f32 a0_2, .flt .f32 a0_3]] => some (.need (impl_BallText_need (⟨a0_0, a0_1, a0_2, a0_3⟩ : Ball)) (.leaf (impl_BallText_mk (impl_BallText (⟨a0_0, a0_1, a0_2, a0_3⟩ : Ball)))))
  | _ => none
set_option maxRecDepth 100000 in
theorem impl_BallText_ok : FunOK Tryd.prog 18 impl_BallText_c.fn := by
  refine con_ok (Γ := gam [(54, impl_ValidBall_c), (55, impl_few_c)]) (gam_cons impl_ValidBall_ok (gam_cons impl_few_ok (gam_nil))) tab_ok (by kernel_rfl) Tryd.func18 (by kernel_rfl) (by kernel_rfl) Tryd.ntmps18 Tryd.results18 (loopsOK_none rfl _) 100000 fun args t h => ?_
  unfold impl_BallText_c at h
  split at h
  · rename_i a0_0 a0_1 a0_2 a0_3
    cases h
    exact ⟨rfl, agree_need (mk := impl_BallText_mk) (t := impl_BallText_tree (⟨a0_0, a0_1, a0_2, a0_3⟩ : Ball)) (by unfold Agree; kernel_rfl)⟩
  · cases h

/-- loop.example/g01284/laws.FnExactBallText -/
def laws_FnExactBallText_tree (a0 : Ball) : DT (Bool) :=
  let x0 := laws_toBall (⟨a0.Mass, a0.Radius, a0.Spin, a0.Start⟩ : Ball);
  .need ((spec_BallText_need (⟨x0.Mass, x0.Radius, x0.Spin, x0.Start⟩ : Ball))) (
  let x1 := spec_BallText (⟨x0.Mass, x0.Radius, x0.Spin, x0.Start⟩ : Ball);
  let x2 := laws_toBall (⟨a0.Mass, a0.Radius, a0.Spin, a0.Start⟩ : Ball);
  .need ((impl_BallText_need (⟨x2.Mass, x2.Radius, x2.Spin, x2.Start⟩ : Ball))) (
  let x3 := impl_BallText (⟨x2.Mass, x2.Radius, x2.Spin, x2.Start⟩ : Ball);
  let x4 := (!(x3.1 == x1.1));
  .ask x4
  (
   .leaf false)
  (
   let x5 := (!(x3.2 == x1.2));
   .ask x5
   (
    .leaf false)
   (
    .leaf true))))
def laws_FnExactBallText (a0 : Ball) : Bool := (laws_FnExactBallText_tree a0).val
def laws_FnExactBallText_need (a0 : Ball) : Bool := (laws_FnExactBallText_tree a0).ok
def laws_FnExactBallText_mk (p : Bool) : Ret := ⟨.bool p, []⟩
def laws_FnExactBallText_c : Con := fun args => match args with
  | [.agg [.flt .f32 a0_0, .flt .f32 a0_1, .flt .f32 a0_2, .flt .f32 a0_3]] => some (.need (laws_FnExactBallText_need (⟨a0_0, a0_1, a0_2, a0_3⟩ : Ball)) (.leaf (laws_FnExactBallText_mk (laws_FnExactBallText (⟨a0_0, a0_1, a0_2, a0_3⟩ : Ball)))))
  | _ => none
set_option maxRecDepth 100000 in
theorem laws_FnExactBallText_ok : FunOK Tryd.prog 4 laws_FnExactBallText_c.fn := by
  refine con_ok (Γ := gam [(17, laws_toBall_c), (16, spec_BallText_c), (18, impl_BallText_c)]) (gam_cons laws_toBall_ok (gam_cons spec_BallText_ok (gam_cons impl_BallText_ok (gam_nil)))) tab_ok (by kernel_rfl) Tryd.func4 (by kernel_rfl) (by kernel_rfl) Tryd.ntmps4 Tryd.results4 (loopsOK_none rfl _) 100000 fun args t h => ?_
  unfold laws_FnExactBallText_c at h
  split at h
  · rename_i a0_0 a0_1 a0_2 a0_3
    cases h
    exact ⟨rfl, agree_need (mk := laws_FnExactBallText_mk) (t := laws_FnExactBallText_tree (⟨a0_0, a0_1, a0_2, a0_3⟩ : Ball)) (by unfold Agree; kernel_rfl)⟩
  · cases h

/-- loop.example/g01284/laws.toOrbit -/
def laws_toOrbit_tree (a0 : Orbit) : DT (Orbit) :=
  .leaf ((⟨a0.Long, a0.Round, a0.Tilt, a0.Node, a0.Peri, a0.Phase⟩ : Orbit))
def laws_toOrbit (a0 : Orbit) : Orbit := (laws_toOrbit_tree a0).val
def laws_toOrbit_mk (p : Orbit) : Ret := ⟨.agg [.flt .f32 p.Long, .flt .f32 p.Round, .flt .f32 p.Tilt, .flt .f32 p.Node, .flt .f32 p.Peri, .flt .f32 p.Phase], []⟩
def laws_toOrbit_c : Con := fun args => match args with
  | [.agg [.flt .f32 a0_0, .flt .f32 a0_1, .flt .f32 a0_2, .flt .f32 a0_3, .flt .f32 a0_4, .flt .f32 a0_5]] => some (.leaf (laws_toOrbit_mk (laws_toOrbit (⟨a0_0, a0_1, a0_2, a0_3, a0_4, a0_5⟩ : Orbit))))
  | _ => none
set_option maxRecDepth 100000 in
theorem laws_toOrbit_ok : FunOK Tryd.prog 20 laws_toOrbit_c.fn := by
  refine con_ok (Γ := gam []) (gam_nil) tab_ok (by kernel_rfl) Tryd.func20 (by kernel_rfl) (by kernel_rfl) Tryd.ntmps20 Tryd.results20 (loopsOK_none rfl _) 100000 fun args t h => ?_
  unfold laws_toOrbit_c at h
  split at h
  · rename_i a0_0 a0_1 a0_2 a0_3 a0_4 a0_5
    cases h
    exact ⟨rfl, agree_tot (mk := laws_toOrbit_mk) (t := laws_toOrbit_tree (⟨a0_0, a0_1, a0_2, a0_3, a0_4, a0_5⟩ : Orbit)) (by unfold Agree; kernel_rfl) (by kernel_rfl)⟩
  · cases h

/-- loop.example/g01284/spec.l03Turn -/
def spec_l03Turn_tree (a0 : Nat) : DT (Bool) :=
  let x0 := fge .f32 a0 0;
  .ask x0
  (
   let x1 := flt .f32 a0 1065353216;
   .leaf x1)
  (
   .leaf false)
def spec_l03Turn (a0 : Nat) : Bool := (spec_l03Turn_tree a0).val
def spec_l03Turn_mk (p : Bool) : Ret := ⟨.bool p, []⟩
def spec_l03Turn_c : Con := fun args => match args with
  | [.flt .f32 a0] => some (.leaf (spec_l03Turn_mk (spec_l03Turn a0)))
  | _ => none
set_option maxRecDepth 100000 in
theorem spec_l03Turn_ok : FunOK Tryd.prog 97 spec_l03Turn_c.fn := by
  refine con_ok (Γ := gam []) (gam_nil) tab_ok (by kernel_rfl) Tryd.func97 (by kernel_rfl) (by kernel_rfl) Tryd.ntmps97 Tryd.results97 (loopsOK_none rfl _) 100000 fun args t h => ?_
  unfold spec_l03Turn_c at h
  split at h
  · rename_i a0
    cases h
    exact ⟨rfl, agree_tot (mk := spec_l03Turn_mk) (t := spec_l03Turn_tree a0) (by unfold Agree; kernel_rfl) (by kernel_rfl)⟩
  · cases h

/-- loop.example/g01284/spec.l03Is -/
def spec_l03Is_tree (a0 : Orbit) : DT (Bool) :=
  let x0 := spec_l01Finite a0.Long;
  .ask (!x0)
  (
   .leaf false)
  (
   let x1 := spec_l01Finite a0.Round;
   .ask (!x1)
   (
    .leaf false)
   (
    let x2 := fge .f32 a0.Tilt 0;
    .ask x2
    (
     let x3 := fle .f32 a0.Tilt 1056964608;
     .ask (!x3)
     (
      .leaf false)
     (
      let x4 := spec_l03Turn a0.Node;
      .ask (!x4)
      (
       .leaf false)
      (
       let x5 := spec_l03Turn a0.Peri;
       .ask (!x5)
       (
        .leaf false)
       (
        let x6 := fgt .f32 a0.Long 0;
        .ask x6
        (
         let x7 := fge .f32 a0.Round 0;
         .ask x7
         (
          let x8 := flt .f32 a0.Round 1065353216;
          .ask x8
          (
           let x9 := spec_l03Turn a0.Phase;
           .leaf x9)
          (
           .leaf false))
         (
          .leaf false))
        (
         let x7 := flt .f32 a0.Long 0;
         .ask x7
         (
          let x8 := fgt .f32 a0.Round 1065353216;
          .ask x8
          (
           let x9 := fge .f32 a0.Phase 3246391296;
           .ask x9
           (
            let x10 := fle .f32 a0.Phase 1098907648;
            .leaf x10)
           (
            .leaf false))
          (
           .leaf false))
         (
          .leaf false))))))
    (
     .leaf false)))
def spec_l03Is (a0 : Orbit) : Bool := (spec_l03Is_tree a0).val
def spec_l03Is_mk (p : Bool) : Ret := ⟨.bool p, []⟩
def spec_l03Is_c0 : Con := fun args => match args with
  | [.vcell [.flt .f32 a0_0, .flt .f32 a0_1, .flt .f32 a0_2, .flt .f32 a0_3, .flt .f32 a0_4, .flt .f32 a0_5] 0] => some (.leaf (spec_l03Is_mk (spec_l03Is (⟨a0_0, a0_1, a0_2, a0_3, a0_4, a0_5⟩ : Orbit))))
  | _ => none
set_option maxRecDepth 100000 in
theorem spec_l03Is_ok0 : FunOK Tryd.prog 56 spec_l03Is_c0.fn := by
  refine con_ok (Γ := gam [(94, spec_l01Finite_c), (97, spec_l03Turn_c)]) (gam_cons spec_l01Finite_ok (gam_cons spec_l03Turn_ok (gam_nil))) tab_ok (by kernel_rfl) Tryd.func56 (by kernel_rfl) (by kernel_rfl) Tryd.ntmps56 Tryd.results56 (loopsOK_none rfl _) 100000 fun args t h => ?_
  unfold spec_l03Is_c0 at h
  split at h
  · rename_i a0_0 a0_1 a0_2 a0_3 a0_4 a0_5
    cases h
    exact ⟨rfl, agree_tot (mk := spec_l03Is_mk) (t := spec_l03Is_tree (⟨a0_0, a0_1, a0_2, a0_3, a0_4, a0_5⟩ : Orbit)) (by unfold Agree; kernel_rfl) (by kernel_rfl)⟩
  · cases h
def spec_l03Is_c : Con := fun args => spec_l03Is_c0 (norms 0 [.ptr 6] args)
set_option maxRecDepth 100000 in
theorem spec_l03Is_ok : FunOK Tryd.prog 56 spec_l03Is_c.fn := con_norm [.ptr 6] spec_l03Is_ok0

/-- loop.example/g01284/spec.l08Six -/
def spec_l08Six_tree (a0 : Orbit) : DT (List Nat) :=
  .leaf ([a0.Long, a0.Round, a0.Tilt, a0.Node, a0.Peri, a0.Phase])
def spec_l08Six (a0 : Orbit) : List Nat := (spec_l08Six_tree a0).val
def spec_l08Six_mk (p : List Nat) : Ret := ⟨.own 0, [.typed 22 (.flt .f32) p]⟩
def spec_l08Six_c0 : Con := fun args => match args with
  | [.vcell [.flt .f32 a0_0, .flt .f32 a0_1, .flt .f32 a0_2, .flt .f32 a0_3, .flt .f32 a0_4, .flt .f32 a0_5] 0] => some (.leaf (spec_l08Six_mk (spec_l08Six (⟨a0_0, a0_1, a0_2, a0_3, a0_4, a0_5⟩ : Orbit))))
  | _ => none
set_option maxRecDepth 100000 in
theorem spec_l08Six_ok0 : FunOK Tryd.prog 58 spec_l08Six_c0.fn := by
  refine con_ok (Γ := gam []) (gam_nil) tab_ok (by kernel_rfl) Tryd.func58 (by kernel_rfl) (by kernel_rfl) Tryd.ntmps58 Tryd.results58 (loopsOK_none rfl _) 100000 fun args t h => ?_
  unfold spec_l08Six_c0 at h
  split at h
  · rename_i a0_0 a0_1 a0_2 a0_3 a0_4 a0_5
    cases h
    exact ⟨rfl, agree_tot (mk := spec_l08Six_mk) (t := spec_l08Six_tree (⟨a0_0, a0_1, a0_2, a0_3, a0_4, a0_5⟩ : Orbit)) (by unfold Agree; kernel_rfl) (by kernel_rfl)⟩
  · cases h
def spec_l08Six_c : Con := fun args => spec_l08Six_c0 (norms 0 [.ptr 6] args)
set_option maxRecDepth 100000 in
theorem spec_l08Six_ok : FunOK Tryd.prog 58 spec_l08Six_c.fn := con_norm [.ptr 6] spec_l08Six_ok0

/-- loop.example/g01284/spec.OrbitText -/
def spec_OrbitText_tree (a0 : Orbit) : DT ((List UInt8) × Bool) :=
  let x0 := spec_l03Is (⟨a0.Long, a0.Round, a0.Tilt, a0.Node, a0.Peri, a0.Phase⟩ : Orbit);
  .ask (!x0)
  (
   .leaf ([], false))
  (
   let x1 := spec_l08Six (⟨a0.Long, a0.Round, a0.Tilt, a0.Node, a0.Peri, a0.Phase⟩ : Orbit);
   .need ((spec_l01NText_need x1)) (
   let x2 := spec_l01NText x1;
   .leaf (x2, true)))
def spec_OrbitText (a0 : Orbit) : (List UInt8) × Bool := (spec_OrbitText_tree a0).val
def spec_OrbitText_need (a0 : Orbit) : Bool := (spec_OrbitText_tree a0).ok
def spec_OrbitText_mk (p : (List UInt8) × Bool) : Ret := ⟨.tup [.str p.1, .bool p.2], []⟩
def spec_OrbitText_c : Con := fun args => match args with
  | [.agg [.flt .f32 a0_0, .flt .f32 a0_1, .flt .f32 a0_2, .flt .f32 a0_3, .flt .f32 a0_4, .flt .f32 a0_5]] => some (.need (spec_OrbitText_need (⟨a0_0, a0_1, a0_2, a0_3, a0_4, a0_5⟩ : Orbit)) (.leaf (spec_OrbitText_mk (spec_OrbitText (⟨a0_0, a0_1, a0_2, a0_3, a0_4, a0_5⟩ : Orbit)))))
  | _ => none
set_option maxRecDepth 100000 in
theorem spec_OrbitText_ok : FunOK Tryd.prog 19 spec_OrbitText_c.fn := by
  refine con_ok (Γ := gam [(56, spec_l03Is_c), (58, spec_l08Six_c), (57, spec_l01NText_c)]) (gam_cons spec_l03Is_ok (gam_cons spec_l08Six_ok (gam_cons spec_l01NText_ok (gam_nil)))) tab_ok (by kernel_rfl) Tryd.func19 (by kernel_rfl) (by kernel_rfl) Tryd.ntmps19 Tryd.results19 (loopsOK_none rfl _) 100000 fun args t h => ?_
  unfold spec_OrbitText_c at h
  split at h
  · rename_i a0_0 a0_1 a0_2 a0_3 a0_4 a0_5
    cases h
    exact ⟨rfl, agree_need (mk := spec_OrbitText_mk) (t := spec_OrbitText_tree (⟨a0_0, a0_1, a0_2, a0_3, a0_4, a0_5⟩ : Orbit)) (by unfold Agree; kernel_rfl)⟩
  · cases h

/-- loop.example/g01284/impl.isTurn -/
def impl_isTurn_tree (a0 : Nat) : DT (Bool) :=
  let x0 := fge .f32 a0 0;
  .ask x0
  (
   let x1 := flt .f32 a0 1065353216;
   .leaf x1)
  (
   .leaf false)
def impl_isTurn (a0 : Nat) : Bool := (impl_isTurn_tree a0).val
def impl_isTurn_mk (p : Bool) : Ret := ⟨.bool p, []⟩
def impl_isTurn_c : Con := fun args => match args with
  | [.flt .f32 a0] => some (.leaf (impl_isTurn_mk (impl_isTurn a0)))
  | _ => none
set_option maxRecDepth 100000 in
theorem impl_isTurn_ok : FunOK Tryd.prog 99 impl_isTurn_c.fn := by
  refine con_ok (Γ := gam []) (gam_nil) tab_ok (by kernel_rfl) Tryd.func99 (by kernel_rfl) (by kernel_rfl) Tryd.ntmps99 Tryd.results99 (loopsOK_none rfl _) 100000 fun args t h => ?_
  unfold impl_isTurn_c at h
  split at h
  · rename_i a0
    cases h
    exact ⟨rfl, agree_tot (mk := impl_isTurn_mk) (t := impl_isTurn_tree a0) (by unfold Agree; kernel_rfl) (by kernel_rfl)⟩
  · cases h

/-- (loop.example/g01284/impl.Orbit).isEllipse -/
def impl_Orbit_isEllipse_tree (a0 : Orbit) : DT (Bool) :=
  let x0 := fgt .f32 a0.Long 0;
  .ask x0
  (
   let x1 := fge .f32 a0.Round 0;
   .ask x1
   (
    let x2 := flt .f32 a0.Round 1065353216;
    .ask x2
    (
     let x3 := impl_isTurn a0.Phase;
     .leaf x3)
    (
     .leaf false))
   (
    .leaf false))
  (
   .leaf false)
def impl_Orbit_isEllipse (a0 : Orbit) : Bool := (impl_Orbit_isEllipse_tree a0).val
def impl_Orbit_isEllipse_mk (p : Bool) : Ret := ⟨.bool p, []⟩
def impl_Orbit_isEllipse_c : Con := fun args => match args with
  | [.agg [.flt .f32 a0_0, .flt .f32 a0_1, .flt .f32 a0_2, .flt .f32 a0_3, .flt .f32 a0_4, .flt .f32 a0_5]] => some (.leaf (impl_Orbit_isEllipse_mk (impl_Orbit_isEllipse (⟨a0_0, a0_1, a0_2, a0_3, a0_4, a0_5⟩ : Orbit))))
  | _ => none
set_option maxRecDepth 100000 in
theorem impl_Orbit_isEllipse_ok : FunOK Tryd.prog 100 impl_Orbit_isEllipse_c.fn := by
  refine con_ok (Γ := gam [(99, impl_isTurn_c)]) (gam_cons impl_isTurn_ok (gam_nil)) tab_ok (by kernel_rfl) Tryd.func100 (by kernel_rfl) (by kernel_rfl) Tryd.ntmps100 Tryd.results100 (loopsOK_none rfl _) 100000 fun args t h => ?_
  unfold impl_Orbit_isEllipse_c at h
  split at h
  · rename_i a0_0 a0_1 a0_2 a0_3 a0_4 a0_5
    cases h
    exact ⟨rfl, agree_tot (mk := impl_Orbit_isEllipse_mk) (t := impl_Orbit_isEllipse_tree (⟨a0_0, a0_1, a0_2, a0_3, a0_4, a0_5⟩ : Orbit)) (by unfold Agree; kernel_rfl) (by kernel_rfl)⟩
  · cases h

/-- (loop.example/g01284/impl.Orbit).isBranch -/
def impl_Orbit_isBranch_tree (a0 : Orbit) : DT (Bool) :=
  let x0 := flt .f32 a0.Long 0;
  .ask x0
  (
   let x1 := fgt .f32 a0.Round 1065353216;
   .ask x1
   (
    let x2 := fge .f32 a0.Phase 3246391296;
    .ask x2
    (
     let x3 := fle .f32 a0.Phase 1098907648;
     .leaf x3)
    (
     .leaf false))
   (
    .leaf false))
  (
   .leaf false)
def impl_Orbit_isBranch (a0 : Orbit) : Bool := (impl_Orbit_isBranch_tree a0).val
def impl_Orbit_isBranch_mk (p : Bool) : Ret := ⟨.bool p, []⟩
def impl_Orbit_isBranch_c : Con := fun args => match args with
  | [.agg [.flt .f32 a0_0, .flt .f32 a0_1, .flt .f32 a0_2, .flt .f32 a0_3, .flt .f32 a0_4, .flt .f32 a0_5]] => some (.leaf (impl_Orbit_isBranch_mk (impl_Orbit_isBranch (⟨a0_0, a0_1, a0_2, a0_3, a0_4, a0_5⟩ : Orbit))))
  | _ => none
set_option maxRecDepth 100000 in
theorem impl_Orbit_isBranch_ok : FunOK Tryd.prog 101 impl_Orbit_isBranch_c.fn := by
  refine con_ok (Γ := gam []) (gam_nil) tab_ok (by kernel_rfl) Tryd.func101 (by kernel_rfl) (by kernel_rfl) Tryd.ntmps101 Tryd.results101 (loopsOK_none rfl _) 100000 fun args t h => ?_
  unfold impl_Orbit_isBranch_c at h
  split at h
  · rename_i a0_0 a0_1 a0_2 a0_3 a0_4 a0_5
    cases h
    exact ⟨rfl, agree_tot (mk := impl_Orbit_isBranch_mk) (t := impl_Orbit_isBranch_tree (⟨a0_0, a0_1, a0_2, a0_3, a0_4, a0_5⟩ : Orbit)) (by unfold Agree; kernel_rfl) (by kernel_rfl)⟩
  · cases h

/-- loop.example/g01284/impl.ValidOrbit -/
def impl_ValidOrbit_tree (a0 : Orbit) : DT (Bool) :=
  .need ((impl_areFinite_need ([a0.Long, a0.Round, a0.Tilt, a0.Node, a0.Peri, a0.Phase]))) (
  let x0 := impl_areFinite ([a0.Long, a0.Round, a0.Tilt, a0.Node, a0.Peri, a0.Phase]);
  .ask x0
  (
   let x1 := fge .f32 a0.Tilt 0;
   .ask x1
   (
    let x2 := fle .f32 a0.Tilt 1056964608;
    .ask x2
    (
     let x3 := impl_isTurn a0.Node;
     .ask x3
     (
      let x4 := impl_isTurn a0.Peri;
      .ask x4
      (
       let x5 := impl_Orbit_isEllipse (⟨a0.Long, a0.Round, a0.Tilt, a0.Node, a0.Peri, a0.Phase⟩ : Orbit);
       .ask x5
       (
        .leaf true)
       (
        let x6 := impl_Orbit_isBranch (⟨a0.Long, a0.Round, a0.Tilt, a0.Node, a0.Peri, a0.Phase⟩ : Orbit);
        .leaf x6))
      (
       .leaf false))
     (
      .leaf false))
    (
     .leaf false))
   (
    .leaf false))
  (
   .leaf false))
def impl_ValidOrbit (a0 : Orbit) : Bool := (impl_ValidOrbit_tree a0).val
def impl_ValidOrbit_need (a0 : Orbit) : Bool := (impl_ValidOrbit_tree a0).ok
def impl_ValidOrbit_mk (p : Bool) : Ret := ⟨.bool p, []⟩
def impl_ValidOrbit_c : Con := fun args => match args with
  | [.agg [.flt .f32 a0_0, .flt .f32 a0_1, .flt .f32 a0_2, .flt .f32 a0_3, .flt .f32 a0_4, .flt .f32 a0_5]] => some (.need (impl_ValidOrbit_need (⟨a0_0, a0_1, a0_2, a0_3, a0_4, a0_5⟩ : Orbit)) (.leaf (impl_ValidOrbit_mk (impl_ValidOrbit (⟨a0_0, a0_1, a0_2, a0_3, a0_4, a0_5⟩ : Orbit)))))
  | _ => none
set_option maxRecDepth 100000 in
theorem impl_ValidOrbit_ok : FunOK Tryd.prog 59 impl_ValidOrbit_c.fn := by
  refine con_ok (Γ := gam [(96, impl_areFinite_c), (99, impl_isTurn_c), (100, impl_Orbit_isEllipse_c), (101, impl_Orbit_isBranch_c)]) (gam_cons impl_areFinite_ok (gam_cons impl_isTurn_ok (gam_cons impl_Orbit_isEllipse_ok (gam_cons impl_Orbit_isBranch_ok (gam_nil))))) tab_ok (by kernel_rfl) Tryd.func59 (by kernel_rfl) (by kernel_rfl) Tryd.ntmps59 Tryd.results59 (loopsOK_none rfl _) 100000 fun args t h => ?_
  unfold impl_ValidOrbit_c at h
  split at h
  · rename_i a0_0 a0_1 a0_2 a0_3 a0_4 a0_5
    cases h
    exact ⟨rfl, agree_need (mk := impl_ValidOrbit_mk) (t := impl_ValidOrbit_tree (⟨a0_0, a0_1, a0_2, a0_3, a0_4, a0_5⟩ : Orbit)) (by unfold Agree; kernel_rfl)⟩
  · cases h

/-- (loop.example/g01284/impl.Orbit).numbers -/
def impl_Orbit_numbers_tree (a0 : Orbit) : DT (List Nat) :=
  .leaf ([a0.Long, a0.Round, a0.Tilt, a0.Node, a0.Peri, a0.Phase])
def impl_Orbit_numbers (a0 : Orbit) : List Nat := (impl_Orbit_numbers_tree a0).val
def impl_Orbit_numbers_mk (p : List Nat) : Ret := ⟨.own 0, [.typed 22 (.flt .f32) p]⟩
def impl_Orbit_numbers_c : Con := fun args => match args with
  | [.agg [.flt .f32 a0_0, .flt .f32 a0_1, .flt .f32 a0_2, .flt .f32 a0_3, .flt .f32 a0_4, .flt .f32 a0_5]] => some (.leaf (impl_Orbit_numbers_mk (impl_Orbit_numbers (⟨a0_0, a0_1, a0_2, a0_3, a0_4, a0_5⟩ : Orbit))))
  | _ => none
set_option maxRecDepth 100000 in
theorem impl_Orbit_numbers_ok : FunOK Tryd.prog 60 impl_Orbit_numbers_c.fn := by
  refine con_ok (Γ := gam []) (gam_nil) tab_ok (by kernel_rfl) Tryd.func60 (by kernel_rfl) (by kernel_rfl) Tryd.ntmps60 Tryd.results60 (loopsOK_none rfl _) 100000 fun args t h => ?_
  unfold impl_Orbit_numbers_c at h
  split at h
  · rename_i a0_0 a0_1 a0_2 a0_3 a0_4 a0_5
    cases h
    exact ⟨rfl, agree_tot (mk := impl_Orbit_numbers_mk) (t := impl_Orbit_numbers_tree (⟨a0_0, a0_1, a0_2, a0_3, a0_4, a0_5⟩ : Orbit)) (by unfold Agree; kernel_rfl) (by kernel_rfl)⟩
  · cases h

/-- loop.example/g01284/impl.OrbitText -/
def impl_OrbitText_tree (a0 : Orbit) : DT ((List UInt8) × Bool) :=
  .need ((impl_ValidOrbit_need (⟨a0.Long, a0.Round, a0.Tilt, a0.Node, a0.Peri, a0.Phase⟩ : Orbit))) (
  let x0 := impl_ValidOrbit (⟨a0.Long, a0.Round, a0.Tilt, a0.Node, a0.Peri, a0.Phase⟩ : Orbit);
  .ask (!x0)
  (
   .leaf ([], false))
  (
   let x1 := impl_Orbit_numbers (⟨a0.Long, a0.Round, a0.Tilt, a0.Node, a0.Peri, a0.Phase⟩ : Orbit);
   .need ((impl_few_need x1)) (
   let x2 := impl_few x1;
   .leaf (x2, true))))
def impl_OrbitText (a0 : Orbit) : (List UInt8) × Bool := (impl_OrbitText_tree a0).val
def impl_OrbitText_need (a0 : Orbit) : Bool := (impl_OrbitText_tree a0).ok
def impl_OrbitText_mk (p : (List UInt8) × Bool) : Ret := ⟨.tup [.str p.1, .bool p.2], []⟩
def impl_OrbitText_c : Con := fun args => match args with
  | [.agg [.flt .f32 a0_0, .flt .f32 a0_1, .flt .f32 a0_2, .flt .f32 a0_3, .flt .f32 a0_4, .flt .f32 a0_5]] => some (.need (impl_OrbitText_need (⟨a0_0, a0_1, a0_2, a0_3, a0_4, a0_5⟩ : Orbit)) (.leaf (impl_OrbitText_mk (impl_OrbitText (⟨a0_0, a0_1, a0_2, a0_3, a0_4, a0_5⟩ : Orbit)))))
  | _ => none
set_option maxRecDepth 100000 in
theorem impl_OrbitText_ok : FunOK Tryd.prog 21 impl_OrbitText_c.fn := by
  refine con_ok (Γ := gam [(59, impl_ValidOrbit_c), (60, impl_Orbit_numbers_c), (55, impl_few_c)]) (gam_cons impl_ValidOrbit_ok (gam_cons impl_Orbit_numbers_ok (gam_cons impl_few_ok (gam_nil)))) tab_ok (by kernel_rfl) Tryd.func21 (by kernel_rfl) (by kernel_rfl) Tryd.ntmps21 Tryd.results21 (loopsOK_none rfl _) 100000 fun args t h => ?_
  unfold impl_OrbitText_c at h
  split at h
  · rename_i a0_0 a0_1 a0_2 a0_3 a0_4 a0_5
    cases h
    exact ⟨rfl, agree_need (mk := impl_OrbitText_mk) (t := impl_OrbitText_tree (⟨a0_0, a0_1, a0_2, a0_3, a0_4, a0_5⟩ : Orbit)) (by unfold Agree; kernel_rfl)⟩
  · cases h

/-- loop.example/g01284/laws.FnExactOrbitText -/
def laws_FnExactOrbitText_tree (a0 : Orbit) : DT (Bool) :=
  let x0 := laws_toOrbit (⟨a0.Long, a0.Round, a0.Tilt, a0.Node, a0.Peri, a0.Phase⟩ : Orbit);
  .need ((spec_OrbitText_need (⟨x0.Long, x0.Round, x0.Tilt, x0.Node, x0.Peri, x0.Phase⟩ : Orbit))) (
  let x1 := spec_OrbitText (⟨x0.Long, x0.Round, x0.Tilt, x0.Node, x0.Peri, x0.Phase⟩ : Orbit);
  let x2 := laws_toOrbit (⟨a0.Long, a0.Round, a0.Tilt, a0.Node, a0.Peri, a0.Phase⟩ : Orbit);
  .need ((impl_OrbitText_need (⟨x2.Long, x2.Round, x2.Tilt, x2.Node, x2.Peri, x2.Phase⟩ : Orbit))) (
  let x3 := impl_OrbitText (⟨x2.Long, x2.Round, x2.Tilt, x2.Node, x2.Peri, x2.Phase⟩ : Orbit);
  let x4 := (!(x3.1 == x1.1));
  .ask x4
  (
   .leaf false)
  (
   let x5 := (!(x3.2 == x1.2));
   .ask x5
   (
    .leaf false)
   (
    .leaf true))))
def laws_FnExactOrbitText (a0 : Orbit) : Bool := (laws_FnExactOrbitText_tree a0).val
def laws_FnExactOrbitText_need (a0 : Orbit) : Bool := (laws_FnExactOrbitText_tree a0).ok
def laws_FnExactOrbitText_mk (p : Bool) : Ret := ⟨.bool p, []⟩
def laws_FnExactOrbitText_c : Con := fun args => match args with
  | [.agg [.flt .f32 a0_0, .flt .f32 a0_1, .flt .f32 a0_2, .flt .f32 a0_3, .flt .f32 a0_4, .flt .f32 a0_5]] => some (.need (laws_FnExactOrbitText_need (⟨a0_0, a0_1, a0_2, a0_3, a0_4, a0_5⟩ : Orbit)) (.leaf (laws_FnExactOrbitText_mk (laws_FnExactOrbitText (⟨a0_0, a0_1, a0_2, a0_3, a0_4, a0_5⟩ : Orbit)))))
  | _ => none
set_option maxRecDepth 100000 in
theorem laws_FnExactOrbitText_ok : FunOK Tryd.prog 5 laws_FnExactOrbitText_c.fn := by
  refine con_ok (Γ := gam [(20, laws_toOrbit_c), (19, spec_OrbitText_c), (21, impl_OrbitText_c)]) (gam_cons laws_toOrbit_ok (gam_cons spec_OrbitText_ok (gam_cons impl_OrbitText_ok (gam_nil)))) tab_ok (by kernel_rfl) Tryd.func5 (by kernel_rfl) (by kernel_rfl) Tryd.ntmps5 Tryd.results5 (loopsOK_none rfl _) 100000 fun args t h => ?_
  unfold laws_FnExactOrbitText_c at h
  split at h
  · rename_i a0_0 a0_1 a0_2 a0_3 a0_4 a0_5
    cases h
    exact ⟨rfl, agree_need (mk := laws_FnExactOrbitText_mk) (t := laws_FnExactOrbitText_tree (⟨a0_0, a0_1, a0_2, a0_3, a0_4, a0_5⟩ : Orbit)) (by unfold Agree; kernel_rfl)⟩
  · cases h

/-- loop.example/g01284/laws.szBodyS -/
def laws_szBodyS_tree (a0 : List Body) (a1 : Int) : DT (Int) :=
  let x0 := ((List.length a0 : Nat) : Int);
  let x1 := IntKind.wrap .i64 (a1 - x0);
  let x2 := decide (x1 < 0);
  .ask x2
  (
   .leaf (-1))
  (
   .leaf x1)
def laws_szBodyS (a0 : List Body) (a1 : Int) : Int := (laws_szBodyS_tree a0 a1).val
def laws_szBodyS_mk (p : Int) : Ret := ⟨.int .i64 p, []⟩
def laws_szBodyS_c0 : Con := fun args => match args with
  | [.vslc 1 .body a0, .int .i64 a1] => some (.leaf (laws_szBodyS_mk (laws_szBodyS a0 a1)))
  | _ => none
set_option maxRecDepth 100000 in
theorem laws_szBodyS_ok0 : FunOK Tryd.prog 22 laws_szBodyS_c0.fn := by
  refine con_ok (Γ := gam []) (gam_nil) tab_ok (by kernel_rfl) Tryd.func22 (by kernel_rfl) (by kernel_rfl) Tryd.ntmps22 Tryd.results22 (loopsOK_none rfl _) 100000 fun args t h => ?_
  unfold laws_szBodyS_c0 at h
  split at h
  · rename_i a0 a1
    cases h
    exact ⟨rfl, agree_tot (mk := laws_szBodyS_mk) (t := laws_szBodyS_tree a0 a1) (by unfold Agree; kernel_rfl) (by kernel_rfl)⟩
  · cases h
def laws_szBodyS_c : Con := fun args => laws_szBodyS_c0 (norms 0 [.slc .body, .none] args)
set_option maxRecDepth 100000 in
theorem laws_szBodyS_ok : FunOK Tryd.prog 22 laws_szBodyS_c.fn := con_norm [.slc .body, .none] laws_szBodyS_ok0

/-- loop.example/g01284/laws.toBody -/
def laws_toBody_tree (a0 : Body) : DT (Body) :=
  let x0 := laws_toVector (⟨a0.At.X, a0.At.Y, a0.At.Z⟩ : Vec);
  let x1 := laws_toVector (⟨a0.Speed.X, a0.Speed.Y, a0.Speed.Z⟩ : Vec);
  .leaf ((⟨⟨x0.X, x0.Y, x0.Z⟩, ⟨x1.X, x1.Y, x1.Z⟩, a0.Mass⟩ : Body))
def laws_toBody (a0 : Body) : Body := (laws_toBody_tree a0).val
def laws_toBody_mk (p : Body) : Ret := ⟨.agg [.flt .f32 p.At.X, .flt .f32 p.At.Y, .flt .f32 p.At.Z, .flt .f32 p.Speed.X, .flt .f32 p.Speed.Y, .flt .f32 p.Speed.Z, .flt .f32 p.Mass], []⟩
def laws_toBody_c : Con := fun args => match args with
  | [.agg [.flt .f32 a0_0, .flt .f32 a0_1, .flt .f32 a0_2, .flt .f32 a0_3, .flt .f32 a0_4, .flt .f32 a0_5, .flt .f32 a0_6]] => some (.leaf (laws_toBody_mk (laws_toBody (⟨⟨a0_0, a0_1, a0_2⟩, ⟨a0_3, a0_4, a0_5⟩, a0_6⟩ : Body))))
  | _ => none
set_option maxRecDepth 100000 in
theorem laws_toBody_ok : FunOK Tryd.prog 63 laws_toBody_c.fn := by
  refine con_ok (Γ := gam [(14, laws_toVector_c)]) (gam_cons laws_toVector_ok (gam_nil)) tab_ok (by kernel_rfl) Tryd.func63 (by kernel_rfl) (by kernel_rfl) Tryd.ntmps63 Tryd.results63 (loopsOK_none rfl _) 100000 fun args t h => ?_
  unfold laws_toBody_c at h
  split at h
  · rename_i a0_0 a0_1 a0_2 a0_3 a0_4 a0_5 a0_6
    cases h
    exact ⟨rfl, agree_tot (mk := laws_toBody_mk) (t := laws_toBody_tree (⟨⟨a0_0, a0_1, a0_2⟩, ⟨a0_3, a0_4, a0_5⟩, a0_6⟩ : Body)) (by unfold Agree; kernel_rfl) (by kernel_rfl)⟩
  · cases h

/-- a loop of laws_toBodyS -/
def laws_toBodyS_loop0_step (p : List Body) (s : Int × List Body) : Round (Int × List Body) (List Body) :=
  let x0 := ((List.length p : Nat) : Int);
  let x1 := decide (s.1 < x0);
  .ask x1
  (
   .need ((decide (0 ≤ s.1) && decide (s.1 < ((List.length p : Nat) : Int)))) (
   let x2 := List.getD p (Int.toNat s.1) default;
   let x3 := laws_toBody (⟨⟨x2.At.X, x2.At.Y, x2.At.Z⟩, ⟨x2.Speed.X, x2.Speed.Y, x2.Speed.Z⟩, x2.Mass⟩ : Body);
   .need ((decide (0 ≤ s.1) && decide (s.1 < ((List.length s.2 : Nat) : Int)))) (
   .need ((decide ((Int.toNat s.1) < List.length s.2))) (
   let x4 := List.set s.2 (Int.toNat s.1) (⟨⟨x3.At.X, x3.At.Y, x3.At.Z⟩, ⟨x3.Speed.X, x3.Speed.Y, x3.Speed.Z⟩, x3.Mass⟩ : Body);
   let x5 := IntKind.wrap .i64 (s.1 + 1);
   .leaf (.inl (x5, x4), [0])))))
  (
   .leaf (.inr s.2, [0]))
def laws_toBodyS_loop0_L (p : List Body) : LoopS (Int × List Body) (List Body) := { tl := fun s => [.vslc 1 .body p, .junk, .junk, .own 0, .int .i64 s.1], hl := fun s => [some (.typed 89 .body s.2)], ex := fun r => .exit 0, otl := fun r => [.junk, .junk, .junk, .own 0], ohl := fun r => [some (.typed 89 .body r)] }
def laws_toBodyS_loop0_ext : St → Option ((List Body) × (Int × List Body) × List Nat) := fun S => match (S.tm 0).unK, (S.tm 3).unK, (S.tm 4).unK with
  | .vslc 1 .body q0, .own i0, .int .i64 q1 => (match S.hp i0 with
    | some (.typed 89 .body q2) => some (q0, (q1, q2), [i0])
    | _ => none)
  | _, _, _ => none
def laws_toBodyS_loop0_post (p : List Body) (r : List Body) : DT (Ex × St) := .leaf (.exit 0, LSt [.junk, .junk, .junk, .own 0] [some (.typed 89 .body r)])
def laws_toBodyS_loop0 (p : List Body) (s : Int × List Body) : List Body := loopVal (laws_toBodyS_loop0_step p) s
def laws_toBodyS_loop0_ends (p : List Body) (s : Int × List Body) : Bool := loopEnds (laws_toBodyS_loop0_step p) s
def laws_toBodyS_loop0_F : LoopF := loopF laws_toBodyS_loop0_step laws_toBodyS_loop0_ext laws_toBodyS_loop0_post
theorem laws_toBodyS_loop0_hext : ∀ S p s fl, laws_toBodyS_loop0_ext S = some (p, s, fl) → Norm S fl ((laws_toBodyS_loop0_L p).tl s) ((laws_toBodyS_loop0_L p).hl s) (laws_toBodyS_loop0_L p).gl := by
  intro S p s fl h
  unfold laws_toBodyS_loop0_ext at h
  (repeat' split at h) <;> first
    | (cases h; constructor <;> simp_all [laws_toBodyS_loop0_L, keepT, keepH, rens, renH, PV.ren, Blk.ren, fOf, lget, nodup, natIn, lenEq, gtm, PV.unK])
    | cases h
theorem laws_toBodyS_loop0_hpost : ∀ p r e S', (laws_toBodyS_loop0_post p r).get = some (e, S') → e = (laws_toBodyS_loop0_L p).ex r ∧ S' = LSt ((laws_toBodyS_loop0_L p).otl r) ((laws_toBodyS_loop0_L p).ohl r) ((laws_toBodyS_loop0_L p).ogl r) := by
  intro p r e S' h
  unfold laws_toBodyS_loop0_post at h
  simp only [DT.get, Option.some.injEq, Prod.mk.injEq] at h; exact ⟨h.1.symm, h.2.symm⟩

def laws_toBodyS_loops : Nat → Option LoopF := loopTab [(3, laws_toBodyS_loop0_F)]
set_option maxRecDepth 100000 in
theorem laws_toBodyS_l0 : LoopOK Tryd.prog ⟨gam [(63, laws_toBody_c)], tab, 23, laws_toBodyS_loops⟩ (lp Tryd.f24 0) :=
  loopOK_some (F := laws_toBodyS_loop0_F) (by kernel_rfl) (loopF_ok (E := ⟨gam [(63, laws_toBody_c)], tab, 23, laws_toBodyS_loops⟩) ⟨gam_cons laws_toBody_ok (gam_nil), tab_ok, by kernel_rfl⟩ (fuel := 100000) (loopsOK_list (l := []) (by kernel_rfl) trivial) (L := laws_toBodyS_loop0_L) (fun p s => by unfold AgreeL; exact ⟨by kernel_rfl, by kernel_rfl⟩) (fun _ _ h => Ex.noConfusion h) laws_toBodyS_loop0_hext laws_toBodyS_loop0_hpost)
/-- loop.example/g01284/laws.toBodyS -/
def laws_toBodyS_tree (a0 : List Body) : DT (List Body) :=
  let x0 := ((List.length a0 : Nat) : Int);
  .need ((decide (0 ≤ x0) && decide (x0 ≤ x0) && decide (28 * x0 ≤ 281474976710656) && decide (x0 ≤ 9223372036854775807))) (
  let x1 := List.replicate (Int.toNat x0) (⟨⟨0, 0, 0⟩, ⟨0, 0, 0⟩, 0⟩ : Body);
  .need ((laws_toBodyS_loop0_ends a0 (0, x1))) (
  let x2 := laws_toBodyS_loop0 a0 (0, x1);
  .leaf x2))
def laws_toBodyS (a0 : List Body) : List Body := (laws_toBodyS_tree a0).val
def laws_toBodyS_need (a0 : List Body) : Bool := (laws_toBodyS_tree a0).ok
def laws_toBodyS_mk (p : List Body) : Ret := ⟨.own 0, [.typed 89 .body p]⟩
def laws_toBodyS_c0 : Con := fun args => match args with
  | [.vslc 1 .body a0] => some (.need (laws_toBodyS_need a0) (.leaf (laws_toBodyS_mk (laws_toBodyS a0))))
  | _ => none
set_option maxRecDepth 100000 in
theorem laws_toBodyS_ok0 : FunOK Tryd.prog 24 laws_toBodyS_c0.fn := by
  refine con_ok (Γ := gam [(63, laws_toBody_c)]) (gam_cons laws_toBody_ok (gam_nil)) tab_ok (by kernel_rfl) Tryd.func24 (by kernel_rfl) (by kernel_rfl) Tryd.ntmps24 Tryd.results24 (loops := laws_toBodyS_loops) (loopsOK_list (l := [lp Tryd.f24 0]) (by kernel_rfl) ⟨laws_toBodyS_l0, trivial⟩) 100000 fun args t h => ?_
  unfold laws_toBodyS_c0 at h
  split at h
  · rename_i a0
    cases h
    exact ⟨rfl, agree_need (mk := laws_toBodyS_mk) (t := laws_toBodyS_tree a0) (by unfold Agree; kernel_rfl)⟩
  · cases h
def laws_toBodyS_c : Con := fun args => laws_toBodyS_c0 (norms 0 [.slc .body] args)
set_option maxRecDepth 100000 in
theorem laws_toBodyS_ok : FunOK Tryd.prog 24 laws_toBodyS_c.fn := con_norm [.slc .body] laws_toBodyS_ok0

/-- loop.example/g01284/spec.l01VFinite -/
def spec_l01VFinite_tree (a0 : Vec) : DT (Bool) :=
  let x0 := spec_l01Finite a0.X;
  .ask x0
  (
   let x1 := spec_l01Finite a0.Y;
   .ask x1
   (
    let x2 := spec_l01Finite a0.Z;
    .leaf x2)
   (
    .leaf false))
  (
   .leaf false)
def spec_l01VFinite (a0 : Vec) : Bool := (spec_l01VFinite_tree a0).val
def spec_l01VFinite_mk (p : Bool) : Ret := ⟨.bool p, []⟩
def spec_l01VFinite_c : Con := fun args => match args with
  | [.agg [.flt .f32 a0_0, .flt .f32 a0_1, .flt .f32 a0_2]] => some (.leaf (spec_l01VFinite_mk (spec_l01VFinite (⟨a0_0, a0_1, a0_2⟩ : Vec))))
  | _ => none
set_option maxRecDepth 100000 in
theorem spec_l01VFinite_ok : FunOK Tryd.prog 130 spec_l01VFinite_c.fn := by
  refine con_ok (Γ := gam [(94, spec_l01Finite_c)]) (gam_cons spec_l01Finite_ok (gam_nil)) tab_ok (by kernel_rfl) Tryd.func130 (by kernel_rfl) (by kernel_rfl) Tryd.ntmps130 Tryd.results130 (loopsOK_none rfl _) 100000 fun args t h => ?_
  unfold spec_l01VFinite_c at h
  split at h
  · rename_i a0_0 a0_1 a0_2
    cases h
    exact ⟨rfl, agree_tot (mk := spec_l01VFinite_mk) (t := spec_l01VFinite_tree (⟨a0_0, a0_1, a0_2⟩ : Vec)) (by unfold Agree; kernel_rfl) (by kernel_rfl)⟩
  · cases h

/-- loop.example/g01284/spec.l02Least -/
def spec_l02Least_tree (a0 : Nat) : DT (Bool) :=
  let x0 := spec_l01Finite a0;
  .ask x0
  (
   let x1 := fge .f32 a0 0;
   .leaf x1)
  (
   .leaf false)
def spec_l02Least (a0 : Nat) : Bool := (spec_l02Least_tree a0).val
def spec_l02Least_mk (p : Bool) : Ret := ⟨.bool p, []⟩
def spec_l02Least_c : Con := fun args => match args with
  | [.flt .f32 a0] => some (.leaf (spec_l02Least_mk (spec_l02Least a0)))
  | _ => none
set_option maxRecDepth 100000 in
theorem spec_l02Least_ok : FunOK Tryd.prog 131 spec_l02Least_c.fn := by
  refine con_ok (Γ := gam [(94, spec_l01Finite_c)]) (gam_cons spec_l01Finite_ok (gam_nil)) tab_ok (by kernel_rfl) Tryd.func131 (by kernel_rfl) (by kernel_rfl) Tryd.ntmps131 Tryd.results131 (loopsOK_none rfl _) 100000 fun args t h => ?_
  unfold spec_l02Least_c at h
  split at h
  · rename_i a0
    cases h
    exact ⟨rfl, agree_tot (mk := spec_l02Least_mk) (t := spec_l02Least_tree a0) (by unfold Agree; kernel_rfl) (by kernel_rfl)⟩
  · cases h

/-- loop.example/g01284/spec.l02Body -/
def spec_l02Body_tree (a0 : Body) : DT (Bool) :=
  let x0 := spec_l01VFinite (⟨a0.At.X, a0.At.Y, a0.At.Z⟩ : Vec);
  .ask x0
  (
   let x1 := spec_l01VFinite (⟨a0.Speed.X, a0.Speed.Y, a0.Speed.Z⟩ : Vec);
   .ask x1
   (
    let x2 := spec_l02Least a0.Mass;
    .leaf x2)
   (
    .leaf false))
  (
   .leaf false)
def spec_l02Body (a0 : Body) : Bool := (spec_l02Body_tree a0).val
def spec_l02Body_mk (p : Bool) : Ret := ⟨.bool p, []⟩
def spec_l02Body_c0 : Con := fun args => match args with
  | [.vcell [.flt .f32 a0_0, .flt .f32 a0_1, .flt .f32 a0_2, .flt .f32 a0_3, .flt .f32 a0_4, .flt .f32 a0_5, .flt .f32 a0_6] 0] => some (.leaf (spec_l02Body_mk (spec_l02Body (⟨⟨a0_0, a0_1, a0_2⟩, ⟨a0_3, a0_4, a0_5⟩, a0_6⟩ : Body))))
  | _ => none
set_option maxRecDepth 100000 in
theorem spec_l02Body_ok0 : FunOK Tryd.prog 102 spec_l02Body_c0.fn := by
  refine con_ok (Γ := gam [(130, spec_l01VFinite_c), (131, spec_l02Least_c)]) (gam_cons spec_l01VFinite_ok (gam_cons spec_l02Least_ok (gam_nil))) tab_ok (by kernel_rfl) Tryd.func102 (by kernel_rfl) (by kernel_rfl) Tryd.ntmps102 Tryd.results102 (loopsOK_none rfl _) 100000 fun args t h => ?_
  unfold spec_l02Body_c0 at h
  split at h
  · rename_i a0_0 a0_1 a0_2 a0_3 a0_4 a0_5 a0_6
    cases h
    exact ⟨rfl, agree_tot (mk := spec_l02Body_mk) (t := spec_l02Body_tree (⟨⟨a0_0, a0_1, a0_2⟩, ⟨a0_3, a0_4, a0_5⟩, a0_6⟩ : Body)) (by unfold Agree; kernel_rfl) (by kernel_rfl)⟩
  · cases h
def spec_l02Body_c : Con := fun args => spec_l02Body_c0 (norms 0 [.ptr 7] args)
set_option maxRecDepth 100000 in
theorem spec_l02Body_ok : FunOK Tryd.prog 102 spec_l02Body_c.fn := con_norm [.ptr 7] spec_l02Body_ok0

/-- a loop of spec_l02Are -/
def spec_l02Are_loop0_step (p : List Body) (s : Int) : Round (Int) ((Unit) ⊕ (Unit)) :=
  let x0 := ((List.length p : Nat) : Int);
  let x1 := decide (s < x0);
  .ask x1
  (
   let x2 := ((List.length p : Nat) : Int);
   let x3 := decide (x2 ≤ 16);
   .ask x3
   (
    .need ((decide (0 ≤ s) && decide (s < ((List.length p : Nat) : Int)))) (
    let x4 := List.getD p (Int.toNat s) default;
    let x5 := spec_l02Body (⟨⟨x4.At.X, x4.At.Y, x4.At.Z⟩, ⟨x4.Speed.X, x4.Speed.Y, x4.Speed.Z⟩, x4.Mass⟩ : Body);
    .ask (!x5)
    (
     .leaf (.inr (.inl ()), []))
    (
     let x6 := IntKind.wrap .i64 (s + 1);
     .leaf (.inl x6, []))))
   (
    .leaf (.inr (.inr ()), [])))
  (
   .leaf (.inr (.inr ()), []))
def spec_l02Are_loop0_L (p : List Body) : LoopS (Int) ((Unit) ⊕ (Unit)) := { tl := fun s => [.vslc 1 .body p, .junk, .junk, .int .i64 s], hl := fun s => [], ex := fun r => match r with | .inl r => .ret | .inr r => .exit 0, otl := fun r => match r with | .inl r => [.junk, .junk, .bool false] | .inr r => [.vslc 1 .body p], ohl := fun r => match r with | .inl r => [] | .inr r => [] }
def spec_l02Are_loop0_ext : St → Option ((List Body) × (Int) × List Nat) := fun S => match (S.tm 0).unK, (S.tm 3).unK with
  | .vslc 1 .body q0, .int .i64 q1 => some (q0, q1, [])
  | _, _ => none
def spec_l02Are_loop0_post (p : List Body) (r : (Unit) ⊕ (Unit)) : DT (Ex × St) := .ask (isL r) (.leaf (.ret, LSt [.junk, .junk, .bool false] [])) (.leaf (.exit 0, LSt [.vslc 1 .body p] []))
def spec_l02Are_loop0 (p : List Body) (s : Int) : (Unit) ⊕ (Unit) := loopVal (spec_l02Are_loop0_step p) s
def spec_l02Are_loop0_ends (p : List Body) (s : Int) : Bool := loopEnds (spec_l02Are_loop0_step p) s
def spec_l02Are_loop0_F : LoopF := loopF spec_l02Are_loop0_step spec_l02Are_loop0_ext spec_l02Are_loop0_post
theorem spec_l02Are_loop0_hext : ∀ S p s fl, spec_l02Are_loop0_ext S = some (p, s, fl) → Norm S fl ((spec_l02Are_loop0_L p).tl s) ((spec_l02Are_loop0_L p).hl s) (spec_l02Are_loop0_L p).gl := by
  intro S p s fl h
  unfold spec_l02Are_loop0_ext at h
  (repeat' split at h) <;> first
    | (cases h; constructor <;> simp_all [spec_l02Are_loop0_L, keepT, keepH, rens, renH, PV.ren, Blk.ren, fOf, lget, nodup, natIn, lenEq, gtm, PV.unK])
    | cases h
theorem spec_l02Are_loop0_hpost : ∀ p r e S', (spec_l02Are_loop0_post p r).get = some (e, S') → e = (spec_l02Are_loop0_L p).ex r ∧ S' = LSt ((spec_l02Are_loop0_L p).otl r) ((spec_l02Are_loop0_L p).ohl r) ((spec_l02Are_loop0_L p).ogl r) := by
  intro p r e S' h
  unfold spec_l02Are_loop0_post at h
  cases r <;> (simp only [isL, DT.get, Option.some.injEq, Prod.mk.injEq] at h; exact ⟨h.1.symm, h.2.symm⟩)

def spec_l02Are_loops : Nat → Option LoopF := loopTab [(2, spec_l02Are_loop0_F)]
set_option maxRecDepth 100000 in
theorem spec_l02Are_l0 : LoopOK Tryd.prog ⟨gam [(102, spec_l02Body_c)], tab, 23, spec_l02Are_loops⟩ (lp Tryd.f61 0) :=
  loopOK_some (F := spec_l02Are_loop0_F) (by kernel_rfl) (loopF_ok (E := ⟨gam [(102, spec_l02Body_c)], tab, 23, spec_l02Are_loops⟩) ⟨gam_cons spec_l02Body_ok (gam_nil), tab_ok, by kernel_rfl⟩ (fuel := 100000) (loopsOK_list (l := []) (by kernel_rfl) trivial) (L := spec_l02Are_loop0_L) (fun p s => by unfold AgreeL; exact ⟨by kernel_rfl, by kernel_rfl⟩) (fun _ r h => by cases r <;> exact Ex.noConfusion h) spec_l02Are_loop0_hext spec_l02Are_loop0_hpost)
/-- loop.example/g01284/spec.l02Are -/
def spec_l02Are_tree (a0 : List Body) : DT (Bool) :=
  .need ((spec_l02Are_loop0_ends a0 0)) (
  let x0 := spec_l02Are_loop0 a0 0;
  .ask ((isL x0))
  (
   .leaf false)
  (
   let x1 := ((List.length a0 : Nat) : Int);
   let x2 := decide (x1 ≤ 16);
   .leaf x2))
def spec_l02Are (a0 : List Body) : Bool := (spec_l02Are_tree a0).val
def spec_l02Are_need (a0 : List Body) : Bool := (spec_l02Are_tree a0).ok
def spec_l02Are_mk (p : Bool) : Ret := ⟨.bool p, []⟩
def spec_l02Are_c0 : Con := fun args => match args with
  | [.vslc 1 .body a0] => some (.need (spec_l02Are_need a0) (.leaf (spec_l02Are_mk (spec_l02Are a0))))
  | _ => none
set_option maxRecDepth 100000 in
theorem spec_l02Are_ok0 : FunOK Tryd.prog 61 spec_l02Are_c0.fn := by
  refine con_ok (Γ := gam [(102, spec_l02Body_c)]) (gam_cons spec_l02Body_ok (gam_nil)) tab_ok (by kernel_rfl) Tryd.func61 (by kernel_rfl) (by kernel_rfl) Tryd.ntmps61 Tryd.results61 (loops := spec_l02Are_loops) (loopsOK_list (l := [lp Tryd.f61 0]) (by kernel_rfl) ⟨spec_l02Are_l0, trivial⟩) 100000 fun args t h => ?_
  unfold spec_l02Are_c0 at h
  split at h
  · rename_i a0
    cases h
    exact ⟨rfl, agree_need (mk := spec_l02Are_mk) (t := spec_l02Are_tree a0) (by unfold Agree; kernel_rfl)⟩
  · cases h
def spec_l02Are_c : Con := fun args => spec_l02Are_c0 (norms 0 [.slc .body] args)
set_option maxRecDepth 100000 in
theorem spec_l02Are_ok : FunOK Tryd.prog 61 spec_l02Are_c.fn := con_norm [.slc .body] spec_l02Are_ok0

/-- a loop of spec_l08Bodies -/
def spec_l08Bodies_loop0_step (p : List Body) (s : (List UInt8) × Int) : Round ((List UInt8) × Int) ((List UInt8)) :=
  let x0 := ((List.length p : Nat) : Int);
  let x1 := decide (s.2 < x0);
  .ask x1
  (
   let x2 := decide (s.2 > 0);
   .ask x2
   (
    .need ((decide (List.length s.1 + List.length [47] ≤ 9223372036854775807))) (
    let x3 := s.1 ++ [47];
    .need ((decide (0 ≤ s.2) && decide (s.2 < ((List.length p : Nat) : Int)))) (
    let x4 := List.getD p (Int.toNat s.2) default;
    .need ((spec_l01VText_need (⟨x4.At.X, x4.At.Y, x4.At.Z⟩ : Vec))) (
    let x5 := spec_l01VText (⟨x4.At.X, x4.At.Y, x4.At.Z⟩ : Vec);
    .need ((decide (List.length x5 + List.length [58] ≤ 9223372036854775807))) (
    let x6 := x5 ++ [58];
    .need ((spec_l01VText_need (⟨x4.Speed.X, x4.Speed.Y, x4.Speed.Z⟩ : Vec))) (
    let x7 := spec_l01VText (⟨x4.Speed.X, x4.Speed.Y, x4.Speed.Z⟩ : Vec);
    .need ((decide (List.length x6 + List.length x7 ≤ 9223372036854775807))) (
    let x8 := x6 ++ x7;
    .need ((decide (List.length x8 + List.length [58] ≤ 9223372036854775807))) (
    let x9 := x8 ++ [58];
    .need ((spec_l01NText_need [x4.Mass])) (
    let x10 := spec_l01NText [x4.Mass];
    .need ((decide (List.length x9 + List.length x10 ≤ 9223372036854775807))) (
    let x11 := x9 ++ x10;
    .need ((decide (List.length x3 + List.length x11 ≤ 9223372036854775807))) (
    let x12 := x3 ++ x11;
    let x13 := IntKind.wrap .i64 (s.2 + 1);
    .leaf (.inl (x12, x13), []))))))))))))
   (
    .need ((decide (0 ≤ s.2) && decide (s.2 < ((List.length p : Nat) : Int)))) (
    let x3 := List.getD p (Int.toNat s.2) default;
    .need ((spec_l01VText_need (⟨x3.At.X, x3.At.Y, x3.At.Z⟩ : Vec))) (
    let x4 := spec_l01VText (⟨x3.At.X, x3.At.Y, x3.At.Z⟩ : Vec);
    .need ((decide (List.length x4 + List.length [58] ≤ 9223372036854775807))) (
    let x5 := x4 ++ [58];
    .need ((spec_l01VText_need (⟨x3.Speed.X, x3.Speed.Y, x3.Speed.Z⟩ : Vec))) (
    let x6 := spec_l01VText (⟨x3.Speed.X, x3.Speed.Y, x3.Speed.Z⟩ : Vec);
    .need ((decide (List.length x5 + List.length x6 ≤ 9223372036854775807))) (
    let x7 := x5 ++ x6;
    .need ((decide (List.length x7 + List.length [58] ≤ 9223372036854775807))) (
    let x8 := x7 ++ [58];
    .need ((spec_l01NText_need [x3.Mass])) (
    let x9 := spec_l01NText [x3.Mass];
    .need ((decide (List.length x8 + List.length x9 ≤ 9223372036854775807))) (
    let x10 := x8 ++ x9;
    .need ((decide (List.length s.1 + List.length x10 ≤ 9223372036854775807))) (
    let x11 := s.1 ++ x10;
    let x12 := IntKind.wrap .i64 (s.2 + 1);
    .leaf (.inl (x11, x12), []))))))))))))
  (
   .leaf (.inr s.1, []))
def spec_l08Bodies_loop0_L (p : List Body) : LoopS ((List UInt8) × Int) ((List UInt8)) := { tl := fun s => [.vslc 1 .body p, .junk, .junk, .str s.1, .int .i64 s.2], hl := fun s => [], ex := fun r => .exit 0, otl := fun r => [.junk, .junk, .junk, .str r], ohl := fun r => [] }
def spec_l08Bodies_loop0_ext : St → Option ((List Body) × ((List UInt8) × Int) × List Nat) := fun S => match (S.tm 0).unK, (S.tm 3).unK, (S.tm 4).unK with
  | .vslc 1 .body q0, .str q1, .int .i64 q2 => some (q0, (q1, q2), [])
  | _, _, _ => none
def spec_l08Bodies_loop0_post (p : List Body) (r : (List UInt8)) : DT (Ex × St) := .leaf (.exit 0, LSt [.junk, .junk, .junk, .str r] [])
def spec_l08Bodies_loop0 (p : List Body) (s : (List UInt8) × Int) : (List UInt8) := loopVal (spec_l08Bodies_loop0_step p) s
def spec_l08Bodies_loop0_ends (p : List Body) (s : (List UInt8) × Int) : Bool := loopEnds (spec_l08Bodies_loop0_step p) s
def spec_l08Bodies_loop0_F : LoopF := loopF spec_l08Bodies_loop0_step spec_l08Bodies_loop0_ext spec_l08Bodies_loop0_post
theorem spec_l08Bodies_loop0_hext : ∀ S p s fl, spec_l08Bodies_loop0_ext S = some (p, s, fl) → Norm S fl ((spec_l08Bodies_loop0_L p).tl s) ((spec_l08Bodies_loop0_L p).hl s) (spec_l08Bodies_loop0_L p).gl := by
  intro S p s fl h
  unfold spec_l08Bodies_loop0_ext at h
  (repeat' split at h) <;> first
    | (cases h; constructor <;> simp_all [spec_l08Bodies_loop0_L, keepT, keepH, rens, renH, PV.ren, Blk.ren, fOf, lget, nodup, natIn, lenEq, gtm, PV.unK])
    | cases h
theorem spec_l08Bodies_loop0_hpost : ∀ p r e S', (spec_l08Bodies_loop0_post p r).get = some (e, S') → e = (spec_l08Bodies_loop0_L p).ex r ∧ S' = LSt ((spec_l08Bodies_loop0_L p).otl r) ((spec_l08Bodies_loop0_L p).ohl r) ((spec_l08Bodies_loop0_L p).ogl r) := by
  intro p r e S' h
  unfold spec_l08Bodies_loop0_post at h
  simp only [DT.get, Option.some.injEq, Prod.mk.injEq] at h; exact ⟨h.1.symm, h.2.symm⟩

def spec_l08Bodies_loops : Nat → Option LoopF := loopTab [(5, spec_l08Bodies_loop0_F)]
set_option maxRecDepth 100000 in
theorem spec_l08Bodies_l0 : LoopOK Tryd.prog ⟨gam [(49, spec_l01VText_c), (57, spec_l01NText_c)], tab, 45, spec_l08Bodies_loops⟩ (lp Tryd.f62 0) :=
  loopOK_some (F := spec_l08Bodies_loop0_F) (by kernel_rfl) (loopF_ok (E := ⟨gam [(49, spec_l01VText_c), (57, spec_l01NText_c)], tab, 45, spec_l08Bodies_loops⟩) ⟨gam_cons spec_l01VText_ok (gam_cons spec_l01NText_ok (gam_nil)), tab_ok, by kernel_rfl⟩ (fuel := 100000) (loopsOK_list (l := []) (by kernel_rfl) trivial) (L := spec_l08Bodies_loop0_L) (fun p s => by unfold AgreeL; exact ⟨by kernel_rfl, by kernel_rfl⟩) (fun _ _ h => Ex.noConfusion h) spec_l08Bodies_loop0_hext spec_l08Bodies_loop0_hpost)
/-- loop.example/g01284/spec.l08Bodies -/
def spec_l08Bodies_tree (a0 : List Body) : DT ((List UInt8)) :=
  let x0 := ((List.length a0 : Nat) : Int);
  let x1 := (x0 == 0);
  .ask x1
  (
   .leaf ([110, 111, 110, 101]))
  (
   .need ((spec_l08Bodies_loop0_ends a0 ([], 0))) (
   let x2 := spec_l08Bodies_loop0 a0 ([], 0);
   .leaf x2))
def spec_l08Bodies (a0 : List Body) : (List UInt8) := (spec_l08Bodies_tree a0).val
def spec_l08Bodies_need (a0 : List Body) : Bool := (spec_l08Bodies_tree a0).ok
def spec_l08Bodies_mk (p : (List UInt8)) : Ret := ⟨.str p, []⟩
def spec_l08Bodies_c0 : Con := fun args => match args with
  | [.vslc 1 .body a0] => some (.need (spec_l08Bodies_need a0) (.leaf (spec_l08Bodies_mk (spec_l08Bodies a0))))
  | _ => none
set_option maxRecDepth 100000 in
theorem spec_l08Bodies_ok0 : FunOK Tryd.prog 62 spec_l08Bodies_c0.fn := by
  refine con_ok (Γ := gam [(49, spec_l01VText_c), (57, spec_l01NText_c)]) (gam_cons spec_l01VText_ok (gam_cons spec_l01NText_ok (gam_nil))) tab_ok (by kernel_rfl) Tryd.func62 (by kernel_rfl) (by kernel_rfl) Tryd.ntmps62 Tryd.results62 (loops := spec_l08Bodies_loops) (loopsOK_list (l := [lp Tryd.f62 0]) (by kernel_rfl) ⟨spec_l08Bodies_l0, trivial⟩) 100000 fun args t h => ?_
  unfold spec_l08Bodies_c0 at h
  split at h
  · rename_i a0
    cases h
    exact ⟨rfl, agree_need (mk := spec_l08Bodies_mk) (t := spec_l08Bodies_tree a0) (by unfold Agree; kernel_rfl)⟩
  · cases h
def spec_l08Bodies_c : Con := fun args => spec_l08Bodies_c0 (norms 0 [.slc .body] args)
set_option maxRecDepth 100000 in
theorem spec_l08Bodies_ok : FunOK Tryd.prog 62 spec_l08Bodies_c.fn := con_norm [.slc .body] spec_l08Bodies_ok0

/-- loop.example/g01284/spec.BodiesText -/
def spec_BodiesText_tree (a0 : List Body) : DT ((List UInt8) × Bool) :=
  .need ((spec_l02Are_need a0)) (
  let x0 := spec_l02Are a0;
  .ask (!x0)
  (
   .leaf ([], false))
  (
   .need ((spec_l08Bodies_need a0)) (
   let x1 := spec_l08Bodies a0;
   .leaf (x1, true))))
def spec_BodiesText (a0 : List Body) : (List UInt8) × Bool := (spec_BodiesText_tree a0).val
def spec_BodiesText_need (a0 : List Body) : Bool := (spec_BodiesText_tree a0).ok
def spec_BodiesText_mk (p : (List UInt8) × Bool) : Ret := ⟨.tup [.str p.1, .bool p.2], []⟩
def spec_BodiesText_c0 : Con := fun args => match args with
  | [.vslc 1 .body a0] => some (.need (spec_BodiesText_need a0) (.leaf (spec_BodiesText_mk (spec_BodiesText a0))))
  | _ => none
set_option maxRecDepth 100000 in
theorem spec_BodiesText_ok0 : FunOK Tryd.prog 23 spec_BodiesText_c0.fn := by
  refine con_ok (Γ := gam [(61, spec_l02Are_c), (62, spec_l08Bodies_c)]) (gam_cons spec_l02Are_ok (gam_cons spec_l08Bodies_ok (gam_nil))) tab_ok (by kernel_rfl) Tryd.func23 (by kernel_rfl) (by kernel_rfl) Tryd.ntmps23 Tryd.results23 (loopsOK_none rfl _) 100000 fun args t h => ?_
  unfold spec_BodiesText_c0 at h
  split at h
  · rename_i a0
    cases h
    exact ⟨rfl, agree_need (mk := spec_BodiesText_mk) (t := spec_BodiesText_tree a0) (by unfold Agree; kernel_rfl)⟩
  · cases h
def spec_BodiesText_c : Con := fun args => spec_BodiesText_c0 (norms 0 [.slc .body] args)
set_option maxRecDepth 100000 in
theorem spec_BodiesText_ok : FunOK Tryd.prog 23 spec_BodiesText_c.fn := con_norm [.slc .body] spec_BodiesText_ok0

/-- loop.example/g01284/impl.isFiniteVector -/
def impl_isFiniteVector_tree (a0 : Vec) : DT (Bool) :=
  let x0 := impl_Vector_numbers (⟨a0.X, a0.Y, a0.Z⟩ : Vec);
  .need ((impl_areFinite_need x0)) (
  let x1 := impl_areFinite x0;
  .leaf x1)
def impl_isFiniteVector (a0 : Vec) : Bool := (impl_isFiniteVector_tree a0).val
def impl_isFiniteVector_need (a0 : Vec) : Bool := (impl_isFiniteVector_tree a0).ok
def impl_isFiniteVector_mk (p : Bool) : Ret := ⟨.bool p, []⟩
def impl_isFiniteVector_c : Con := fun args => match args with
  | [.agg [.flt .f32 a0_0, .flt .f32 a0_1, .flt .f32 a0_2]] => some (.need (impl_isFiniteVector_need (⟨a0_0, a0_1, a0_2⟩ : Vec)) (.leaf (impl_isFiniteVector_mk (impl_isFiniteVector (⟨a0_0, a0_1, a0_2⟩ : Vec)))))
  | _ => none
set_option maxRecDepth 100000 in
theorem impl_isFiniteVector_ok : FunOK Tryd.prog 105 impl_isFiniteVector_c.fn := by
  refine con_ok (Γ := gam [(51, impl_Vector_numbers_c), (96, impl_areFinite_c)]) (gam_cons impl_Vector_numbers_ok (gam_cons impl_areFinite_ok (gam_nil))) tab_ok (by kernel_rfl) Tryd.func105 (by kernel_rfl) (by kernel_rfl) Tryd.ntmps105 Tryd.results105 (loopsOK_none rfl _) 100000 fun args t h => ?_
  unfold impl_isFiniteVector_c at h
  split at h
  · rename_i a0_0 a0_1 a0_2
    cases h
    exact ⟨rfl, agree_need (mk := impl_isFiniteVector_mk) (t := impl_isFiniteVector_tree (⟨a0_0, a0_1, a0_2⟩ : Vec)) (by unfold Agree; kernel_rfl)⟩
  · cases h

/-- loop.example/g01284/impl.AreBodies$1 -/
def impl_AreBodies_1_tree (a0 : Body) : DT (Bool) :=
  .need ((impl_isFiniteVector_need (⟨a0.At.X, a0.At.Y, a0.At.Z⟩ : Vec))) (
  let x0 := impl_isFiniteVector (⟨a0.At.X, a0.At.Y, a0.At.Z⟩ : Vec);
  .ask (!x0)
  (
   .leaf true)
  (
   .need ((impl_isFiniteVector_need (⟨a0.Speed.X, a0.Speed.Y, a0.Speed.Z⟩ : Vec))) (
   let x1 := impl_isFiniteVector (⟨a0.Speed.X, a0.Speed.Y, a0.Speed.Z⟩ : Vec);
   .ask (!x1)
   (
    .leaf true)
   (
    .need ((impl_IsFinite_need a0.Mass)) (
    let x2 := impl_IsFinite a0.Mass;
    .ask (!x2)
    (
     .leaf true)
    (
     let x3 := flt .f32 a0.Mass 0;
     .leaf x3))))))
def impl_AreBodies_1 (a0 : Body) : Bool := (impl_AreBodies_1_tree a0).val
def impl_AreBodies_1_need (a0 : Body) : Bool := (impl_AreBodies_1_tree a0).ok
def impl_AreBodies_1_mk (p : Bool) : Ret := ⟨.bool p, []⟩
def impl_AreBodies_1_c : Con := fun args => match args with
  | [.agg [.flt .f32 a0_0, .flt .f32 a0_1, .flt .f32 a0_2, .flt .f32 a0_3, .flt .f32 a0_4, .flt .f32 a0_5, .flt .f32 a0_6]] => some (.need (impl_AreBodies_1_need (⟨⟨a0_0, a0_1, a0_2⟩, ⟨a0_3, a0_4, a0_5⟩, a0_6⟩ : Body)) (.leaf (impl_AreBodies_1_mk (impl_AreBodies_1 (⟨⟨a0_0, a0_1, a0_2⟩, ⟨a0_3, a0_4, a0_5⟩, a0_6⟩ : Body)))))
  | _ => none
set_option maxRecDepth 100000 in
theorem impl_AreBodies_1_ok : FunOK Tryd.prog 104 impl_AreBodies_1_c.fn := by
  refine con_ok (Γ := gam [(105, impl_isFiniteVector_c), (106, impl_IsFinite_c)]) (gam_cons impl_isFiniteVector_ok (gam_cons impl_IsFinite_ok (gam_nil))) tab_ok (by kernel_rfl) Tryd.func104 (by kernel_rfl) (by kernel_rfl) Tryd.ntmps104 Tryd.results104 (loopsOK_none rfl _) 100000 fun args t h => ?_
  unfold impl_AreBodies_1_c at h
  split at h
  · rename_i a0_0 a0_1 a0_2 a0_3 a0_4 a0_5 a0_6
    cases h
    exact ⟨rfl, agree_need (mk := impl_AreBodies_1_mk) (t := impl_AreBodies_1_tree (⟨⟨a0_0, a0_1, a0_2⟩, ⟨a0_3, a0_4, a0_5⟩, a0_6⟩ : Body)) (by unfold Agree; kernel_rfl)⟩
  · cases h

/-- a loop of slices_IndexFunc___impl_Body_impl_Body__impl_AreBodies_1 -/
def slices_IndexFunc___impl_Body_impl_Body__impl_AreBodies_1_loop0_step (p : List Body × Int) (s : Int) : Round (Int) ((Int) ⊕ (Unit)) :=
  let x0 := decide (s < p.2);
  .ask x0
  (
   .need ((decide (0 ≤ s) && decide (s < ((List.length p.1 : Nat) : Int)))) (
   let x1 := List.getD p.1 (Int.toNat s) default;
   .need ((impl_AreBodies_1_need (⟨⟨x1.At.X, x1.At.Y, x1.At.Z⟩, ⟨x1.Speed.X, x1.Speed.Y, x1.Speed.Z⟩, x1.Mass⟩ : Body))) (
   let x2 := impl_AreBodies_1 (⟨⟨x1.At.X, x1.At.Y, x1.At.Z⟩, ⟨x1.Speed.X, x1.Speed.Y, x1.Speed.Z⟩, x1.Mass⟩ : Body);
   .ask x2
   (
    .leaf (.inr (.inl s), []))
   (
    let x3 := IntKind.wrap .i64 (s + 1);
    .leaf (.inl x3, [])))))
  (
   .leaf (.inr (.inr ()), []))
def slices_IndexFunc___impl_Body_impl_Body__impl_AreBodies_1_loop0_L (p : List Body × Int) : LoopS (Int) ((Int) ⊕ (Unit)) := { tl := fun s => [.vslc 1 .body p.1, .func (.func 104) [] [], .junk, .junk, .junk, .junk, .junk, .int .i64 p.2, .int .i64 s], hl := fun s => [], ex := fun r => match r with | .inl r => .ret | .inr r => .exit 0, otl := fun r => match r with | .inl r => [.junk, .junk, .junk, .junk, .int .i64 r] | .inr r => [.junk], ohl := fun r => match r with | .inl r => [] | .inr r => [] }
def slices_IndexFunc___impl_Body_impl_Body__impl_AreBodies_1_loop0_ext : St → Option ((List Body × Int) × (Int) × List Nat) := fun S => match (S.tm 0).unK, (S.tm 1).unK, (S.tm 7).unK, (S.tm 8).unK with
  | .vslc 1 .body q0, .func (.func 104) [] [], .int .i64 q1, .int .i64 q2 => some ((q0, q1), q2, [])
  | _, _, _, _ => none
def slices_IndexFunc___impl_Body_impl_Body__impl_AreBodies_1_loop0_post (p : List Body × Int) (r : (Int) ⊕ (Unit)) : DT (Ex × St) := .ask (isL r) (.leaf (.ret, LSt [.junk, .junk, .junk, .junk, .int .i64 ((leftD r))] [])) (.leaf (.exit 0, LSt [.junk] []))
def slices_IndexFunc___impl_Body_impl_Body__impl_AreBodies_1_loop0 (p : List Body × Int) (s : Int) : (Int) ⊕ (Unit) := loopVal (slices_IndexFunc___impl_Body_impl_Body__impl_AreBodies_1_loop0_step p) s
def slices_IndexFunc___impl_Body_impl_Body__impl_AreBodies_1_loop0_ends (p : List Body × Int) (s : Int) : Bool := loopEnds (slices_IndexFunc___impl_Body_impl_Body__impl_AreBodies_1_loop0_step p) s
def slices_IndexFunc___impl_Body_impl_Body__impl_AreBodies_1_loop0_F : LoopF := loopF slices_IndexFunc___impl_Body_impl_Body__impl_AreBodies_1_loop0_step slices_IndexFunc___impl_Body_impl_Body__impl_AreBodies_1_loop0_ext slices_IndexFunc___impl_Body_impl_Body__impl_AreBodies_1_loop0_post
theorem slices_IndexFunc___impl_Body_impl_Body__impl_AreBodies_1_loop0_hext : ∀ S p s fl, slices_IndexFunc___impl_Body_impl_Body__impl_AreBodies_1_loop0_ext S = some (p, s, fl) → Norm S fl ((slices_IndexFunc___impl_Body_impl_Body__impl_AreBodies_1_loop0_L p).tl s) ((slices_IndexFunc___impl_Body_impl_Body__impl_AreBodies_1_loop0_L p).hl s) (slices_IndexFunc___impl_Body_impl_Body__impl_AreBodies_1_loop0_L p).gl := by
  intro S p s fl h
  unfold slices_IndexFunc___impl_Body_impl_Body__impl_AreBodies_1_loop0_ext at h
  (repeat' split at h) <;> first
    | (cases h; constructor <;> simp_all [slices_IndexFunc___impl_Body_impl_Body__impl_AreBodies_1_loop0_L, keepT, keepH, rens, renH, PV.ren, Blk.ren, fOf, lget, nodup, natIn, lenEq, gtm, PV.unK])
    | cases h
theorem slices_IndexFunc___impl_Body_impl_Body__impl_AreBodies_1_loop0_hpost : ∀ p r e S', (slices_IndexFunc___impl_Body_impl_Body__impl_AreBodies_1_loop0_post p r).get = some (e, S') → e = (slices_IndexFunc___impl_Body_impl_Body__impl_AreBodies_1_loop0_L p).ex r ∧ S' = LSt ((slices_IndexFunc___impl_Body_impl_Body__impl_AreBodies_1_loop0_L p).otl r) ((slices_IndexFunc___impl_Body_impl_Body__impl_AreBodies_1_loop0_L p).ohl r) ((slices_IndexFunc___impl_Body_impl_Body__impl_AreBodies_1_loop0_L p).ogl r) := by
  intro p r e S' h
  unfold slices_IndexFunc___impl_Body_impl_Body__impl_AreBodies_1_loop0_post at h
  cases r <;> (simp only [isL, DT.get, Option.some.injEq, Prod.mk.injEq] at h; exact ⟨h.1.symm, h.2.symm⟩)

def slices_IndexFunc___impl_Body_impl_Body__impl_AreBodies_1_loops : Nat → Option LoopF := loopTab [(2, slices_IndexFunc___impl_Body_impl_Body__impl_AreBodies_1_loop0_F)]
set_option maxRecDepth 100000 in
theorem slices_IndexFunc___impl_Body_impl_Body__impl_AreBodies_1_l0 : LoopOK Tryd.prog ⟨gam [(104, impl_AreBodies_1_c)], tab, 19, slices_IndexFunc___impl_Body_impl_Body__impl_AreBodies_1_loops⟩ (lp Tryd.f132 0) :=
  loopOK_some (F := slices_IndexFunc___impl_Body_impl_Body__impl_AreBodies_1_loop0_F) (by kernel_rfl) (loopF_ok (E := ⟨gam [(104, impl_AreBodies_1_c)], tab, 19, slices_IndexFunc___impl_Body_impl_Body__impl_AreBodies_1_loops⟩) ⟨gam_cons impl_AreBodies_1_ok (gam_nil), tab_ok, by kernel_rfl⟩ (fuel := 100000) (loopsOK_list (l := []) (by kernel_rfl) trivial) (L := slices_IndexFunc___impl_Body_impl_Body__impl_AreBodies_1_loop0_L) (fun p s => by unfold AgreeL; exact ⟨by kernel_rfl, by kernel_rfl⟩) (fun _ r h => by cases r <;> exact Ex.noConfusion h) slices_IndexFunc___impl_Body_impl_Body__impl_AreBodies_1_loop0_hext slices_IndexFunc___impl_Body_impl_Body__impl_AreBodies_1_loop0_hpost)
/-- slices.IndexFunc[[]loop.example/g01284/impl.Body,loop.example/g01284/impl.Body] -/
def slices_IndexFunc___impl_Body_impl_Body__impl_AreBodies_1_tree (a0 : List Body) : DT (Int) :=
  let x0 := ((List.length a0 : Nat) : Int);
  .need ((slices_IndexFunc___impl_Body_impl_Body__impl_AreBodies_1_loop0_ends (a0, x0) 0)) (
  let x1 := slices_IndexFunc___impl_Body_impl_Body__impl_AreBodies_1_loop0 (a0, x0) 0;
  .ask ((isL x1))
  (
   .leaf ((leftD x1)))
  (
   .leaf (-1)))
def slices_IndexFunc___impl_Body_impl_Body__impl_AreBodies_1 (a0 : List Body) : Int := (slices_IndexFunc___impl_Body_impl_Body__impl_AreBodies_1_tree a0).val
def slices_IndexFunc___impl_Body_impl_Body__impl_AreBodies_1_need (a0 : List Body) : Bool := (slices_IndexFunc___impl_Body_impl_Body__impl_AreBodies_1_tree a0).ok
def slices_IndexFunc___impl_Body_impl_Body__impl_AreBodies_1_mk (p : Int) : Ret := ⟨.int .i64 p, []⟩
def slices_IndexFunc___impl_Body_impl_Body__impl_AreBodies_1_c0 : Con := fun args => match args with
  | [.vslc 1 .body a0, .func (.func 104) [] []] => some (.need (slices_IndexFunc___impl_Body_impl_Body__impl_AreBodies_1_need a0) (.leaf (slices_IndexFunc___impl_Body_impl_Body__impl_AreBodies_1_mk (slices_IndexFunc___impl_Body_impl_Body__impl_AreBodies_1 a0))))
  | _ => none
set_option maxRecDepth 100000 in
theorem slices_IndexFunc___impl_Body_impl_Body__impl_AreBodies_1_ok0 : FunOK Tryd.prog 132 slices_IndexFunc___impl_Body_impl_Body__impl_AreBodies_1_c0.fn := by
  refine con_ok (Γ := gam [(104, impl_AreBodies_1_c)]) (gam_cons impl_AreBodies_1_ok (gam_nil)) tab_ok (by kernel_rfl) Tryd.func132 (by kernel_rfl) (by kernel_rfl) Tryd.ntmps132 Tryd.results132 (loops := slices_IndexFunc___impl_Body_impl_Body__impl_AreBodies_1_loops) (loopsOK_list (l := [lp Tryd.f132 0]) (by kernel_rfl) ⟨slices_IndexFunc___impl_Body_impl_Body__impl_AreBodies_1_l0, trivial⟩) 100000 fun args t h => ?_
  unfold slices_IndexFunc___impl_Body_impl_Body__impl_AreBodies_1_c0 at h
  split at h
  · rename_i a0
    cases h
    exact ⟨rfl, agree_need (mk := slices_IndexFunc___impl_Body_impl_Body__impl_AreBodies_1_mk) (t := slices_IndexFunc___impl_Body_impl_Body__impl_AreBodies_1_tree a0) (by unfold Agree; kernel_rfl)⟩
  · cases h
def slices_IndexFunc___impl_Body_impl_Body__impl_AreBodies_1_c : Con := fun args => slices_IndexFunc___impl_Body_impl_Body__impl_AreBodies_1_c0 (norms 0 [.slc .body, .none] args)
set_option maxRecDepth 100000 in
theorem slices_IndexFunc___impl_Body_impl_Body__impl_AreBodies_1_ok : FunOK Tryd.prog 132 slices_IndexFunc___impl_Body_impl_Body__impl_AreBodies_1_c.fn := con_norm [.slc .body, .none] slices_IndexFunc___impl_Body_impl_Body__impl_AreBodies_1_ok0

/-- slices.ContainsFunc[[]loop.example/g01284/impl.Body,loop.example/g01284/impl.Body] -/
def slices_ContainsFunc___impl_Body_impl_Body__impl_AreBodies_1_tree (a0 : List Body) : DT (Bool) :=
  .need ((slices_IndexFunc___impl_Body_impl_Body__impl_AreBodies_1_need a0 )) (
  let x0 := slices_IndexFunc___impl_Body_impl_Body__impl_AreBodies_1 a0 ;
  let x1 := decide (x0 ≥ 0);
  .leaf x1)
def slices_ContainsFunc___impl_Body_impl_Body__impl_AreBodies_1 (a0 : List Body) : Bool := (slices_ContainsFunc___impl_Body_impl_Body__impl_AreBodies_1_tree a0).val
def slices_ContainsFunc___impl_Body_impl_Body__impl_AreBodies_1_need (a0 : List Body) : Bool := (slices_ContainsFunc___impl_Body_impl_Body__impl_AreBodies_1_tree a0).ok
def slices_ContainsFunc___impl_Body_impl_Body__impl_AreBodies_1_mk (p : Bool) : Ret := ⟨.bool p, []⟩
def slices_ContainsFunc___impl_Body_impl_Body__impl_AreBodies_1_c0 : Con := fun args => match args with
  | [.vslc 1 .body a0, .func (.func 104) [] []] => some (.need (slices_ContainsFunc___impl_Body_impl_Body__impl_AreBodies_1_need a0) (.leaf (slices_ContainsFunc___impl_Body_impl_Body__impl_AreBodies_1_mk (slices_ContainsFunc___impl_Body_impl_Body__impl_AreBodies_1 a0))))
  | _ => none
set_option maxRecDepth 100000 in
theorem slices_ContainsFunc___impl_Body_impl_Body__impl_AreBodies_1_ok0 : FunOK Tryd.prog 103 slices_ContainsFunc___impl_Body_impl_Body__impl_AreBodies_1_c0.fn := by
  refine con_ok (Γ := gam [(132, slices_IndexFunc___impl_Body_impl_Body__impl_AreBodies_1_c)]) (gam_cons slices_IndexFunc___impl_Body_impl_Body__impl_AreBodies_1_ok (gam_nil)) tab_ok (by kernel_rfl) Tryd.func103 (by kernel_rfl) (by kernel_rfl) Tryd.ntmps103 Tryd.results103 (loopsOK_none rfl _) 100000 fun args t h => ?_
  unfold slices_ContainsFunc___impl_Body_impl_Body__impl_AreBodies_1_c0 at h
  split at h
  · rename_i a0
    cases h
    exact ⟨rfl, agree_need (mk := slices_ContainsFunc___impl_Body_impl_Body__impl_AreBodies_1_mk) (t := slices_ContainsFunc___impl_Body_impl_Body__impl_AreBodies_1_tree a0) (by unfold Agree; kernel_rfl)⟩
  · cases h
def slices_ContainsFunc___impl_Body_impl_Body__impl_AreBodies_1_c : Con := fun args => slices_ContainsFunc___impl_Body_impl_Body__impl_AreBodies_1_c0 (norms 0 [.slc .body, .none] args)
set_option maxRecDepth 100000 in
theorem slices_ContainsFunc___impl_Body_impl_Body__impl_AreBodies_1_ok : FunOK Tryd.prog 103 slices_ContainsFunc___impl_Body_impl_Body__impl_AreBodies_1_c.fn := con_norm [.slc .body, .none] slices_ContainsFunc___impl_Body_impl_Body__impl_AreBodies_1_ok0

/-- loop.example/g01284/impl.AreBodies -/
def impl_AreBodies_tree (a0 : List Body) : DT (Bool) :=
  let x0 := ((List.length a0 : Nat) : Int);
  let x1 := decide (x0 ≤ 16);
  .ask x1
  (
   .need ((slices_ContainsFunc___impl_Body_impl_Body__impl_AreBodies_1_need a0 )) (
   let x2 := slices_ContainsFunc___impl_Body_impl_Body__impl_AreBodies_1 a0 ;
   .leaf (!x2)))
  (
   .leaf false)
def impl_AreBodies (a0 : List Body) : Bool := (impl_AreBodies_tree a0).val
def impl_AreBodies_need (a0 : List Body) : Bool := (impl_AreBodies_tree a0).ok
def impl_AreBodies_mk (p : Bool) : Ret := ⟨.bool p, []⟩
def impl_AreBodies_c0 : Con := fun args => match args with
  | [.vslc 1 .body a0] => some (.need (impl_AreBodies_need a0) (.leaf (impl_AreBodies_mk (impl_AreBodies a0))))
  | _ => none
set_option maxRecDepth 100000 in
theorem impl_AreBodies_ok0 : FunOK Tryd.prog 64 impl_AreBodies_c0.fn := by
  refine con_ok (Γ := gam [(103, slices_ContainsFunc___impl_Body_impl_Body__impl_AreBodies_1_c)]) (gam_cons slices_ContainsFunc___impl_Body_impl_Body__impl_AreBodies_1_ok (gam_nil)) tab_ok (by kernel_rfl) Tryd.func64 (by kernel_rfl) (by kernel_rfl) Tryd.ntmps64 Tryd.results64 (loopsOK_none rfl _) 100000 fun args t h => ?_
  unfold impl_AreBodies_c0 at h
  split at h
  · rename_i a0
    cases h
    exact ⟨rfl, agree_need (mk := impl_AreBodies_mk) (t := impl_AreBodies_tree a0) (by unfold Agree; kernel_rfl)⟩
  · cases h
def impl_AreBodies_c : Con := fun args => impl_AreBodies_c0 (norms 0 [.slc .body] args)
set_option maxRecDepth 100000 in
theorem impl_AreBodies_ok : FunOK Tryd.prog 64 impl_AreBodies_c.fn := con_norm [.slc .body] impl_AreBodies_ok0

/-- loop.example/g01284/impl.slashed -/
def impl_slashed_tree (a0 : List (List UInt8)) : DT ((List UInt8)) :=
  let x0 := ((List.length a0 : Nat) : Int);
  let x1 := (x0 == 0);
  .ask x1
  (
   .leaf ([110, 111, 110, 101]))
  (
   .need ((decide (List.length a0 ≤ 140737488355328) && decide (List.length (Go.Lib.join a0 [47]) ≤ 140737488355328))) (
   let x2 := Go.Lib.join a0 [47];
   .leaf x2))
def impl_slashed (a0 : List (List UInt8)) : (List UInt8) := (impl_slashed_tree a0).val
def impl_slashed_need (a0 : List (List UInt8)) : Bool := (impl_slashed_tree a0).ok
def impl_slashed_mk (p : (List UInt8)) : Ret := ⟨.str p, []⟩
def impl_slashed_c0 : Con := fun args => match args with
  | [.vslc 1 .str a0] => some (.need (impl_slashed_need a0) (.leaf (impl_slashed_mk (impl_slashed a0))))
  | _ => none
set_option maxRecDepth 100000 in
theorem impl_slashed_ok0 : FunOK Tryd.prog 65 impl_slashed_c0.fn := by
  refine con_ok (Γ := gam [(107, strings_Join_c)]) (gam_cons strings_Join_ok (gam_nil)) tab_ok (by kernel_rfl) Tryd.func65 (by kernel_rfl) (by kernel_rfl) Tryd.ntmps65 Tryd.results65 (loopsOK_none rfl _) 100000 fun args t h => ?_
  unfold impl_slashed_c0 at h
  split at h
  · rename_i a0
    cases h
    exact ⟨rfl, agree_need (mk := impl_slashed_mk) (t := impl_slashed_tree a0) (by unfold Agree; kernel_rfl)⟩
  · cases h
def impl_slashed_c : Con := fun args => impl_slashed_c0 (norms 0 [.slc .str] args)
set_option maxRecDepth 100000 in
theorem impl_slashed_ok : FunOK Tryd.prog 65 impl_slashed_c.fn := con_norm [.slc .str] impl_slashed_ok0

/-- a loop of impl_BodiesText -/
def impl_BodiesText_loop0_step (p : List Body × Int) (s : Int × List (List UInt8)) : Round (Int × List (List UInt8)) (List (List UInt8)) :=
  let x0 := decide (s.1 < p.2);
  .ask x0
  (
   .need ((decide (0 ≤ s.1) && decide (s.1 < ((List.length p.1 : Nat) : Int)))) (
   let x1 := List.getD p.1 (Int.toNat s.1) default;
   .need ((impl_VectorText_need (⟨x1.At.X, x1.At.Y, x1.At.Z⟩ : Vec))) (
   let x2 := impl_VectorText (⟨x1.At.X, x1.At.Y, x1.At.Z⟩ : Vec);
   .need ((decide (List.length x2 + List.length [58] ≤ 9223372036854775807))) (
   let x3 := x2 ++ [58];
   .need ((impl_VectorText_need (⟨x1.Speed.X, x1.Speed.Y, x1.Speed.Z⟩ : Vec))) (
   let x4 := impl_VectorText (⟨x1.Speed.X, x1.Speed.Y, x1.Speed.Z⟩ : Vec);
   .need ((decide (List.length x3 + List.length x4 ≤ 9223372036854775807))) (
   let x5 := x3 ++ x4;
   .need ((decide (List.length x5 + List.length [58] ≤ 9223372036854775807))) (
   let x6 := x5 ++ [58];
   .need ((impl_few_need [x1.Mass])) (
   let x7 := impl_few [x1.Mass];
   .need ((decide (List.length x6 + List.length x7 ≤ 9223372036854775807))) (
   let x8 := x6 ++ x7;
   .need ((decide ((List.length s.2 + List.length [x8]) * 16 ≤ 140737488355328) && decide (List.length s.2 + List.length [x8] ≤ 9223372036854775807))) (
   let x9 := s.2 ++ [x8];
   let x10 := IntKind.wrap .i64 (s.1 + 1);
   .leaf (.inl (x10, x9), [169])))))))))))
  (
   .leaf (.inr s.2, [0]))
def impl_BodiesText_loop0_L (p : List Body × Int) : LoopS (Int × List (List UInt8)) (List (List UInt8)) := { tl := fun s => [.junk, .junk, .junk, .junk, .own 0, .junk, .junk, .junk, .junk, .junk, .junk, .vslc 1 .body p.1, .int .i64 p.2, .int .i64 s.1], hl := fun s => [some (.typed 9 .str s.2)], ex := fun r => .exit 0, otl := fun r => [.junk, .junk, .junk, .junk, .own 0], ohl := fun r => [some (.typed 9 .str r)] }
def impl_BodiesText_loop0_ext : St → Option ((List Body × Int) × (Int × List (List UInt8)) × List Nat) := fun S => match (S.tm 4).unK, (S.tm 11).unK, (S.tm 12).unK, (S.tm 13).unK with
  | .own i0, .vslc 1 .body q0, .int .i64 q1, .int .i64 q2 => (match S.hp i0 with
    | some (.typed 9 .str q3) => some ((q0, q1), (q2, q3), [i0])
    | _ => none)
  | _, _, _, _ => none
def impl_BodiesText_loop0_post (p : List Body × Int) (r : List (List UInt8)) : DT (Ex × St) := .leaf (.exit 0, LSt [.junk, .junk, .junk, .junk, .own 0] [some (.typed 9 .str r)])
def impl_BodiesText_loop0 (p : List Body × Int) (s : Int × List (List UInt8)) : List (List UInt8) := loopVal (impl_BodiesText_loop0_step p) s
def impl_BodiesText_loop0_ends (p : List Body × Int) (s : Int × List (List UInt8)) : Bool := loopEnds (impl_BodiesText_loop0_step p) s
def impl_BodiesText_loop0_F : LoopF := loopF impl_BodiesText_loop0_step impl_BodiesText_loop0_ext impl_BodiesText_loop0_post
theorem impl_BodiesText_loop0_hext : ∀ S p s fl, impl_BodiesText_loop0_ext S = some (p, s, fl) → Norm S fl ((impl_BodiesText_loop0_L p).tl s) ((impl_BodiesText_loop0_L p).hl s) (impl_BodiesText_loop0_L p).gl := by
  intro S p s fl h
  unfold impl_BodiesText_loop0_ext at h
  (repeat' split at h) <;> first
    | (cases h; constructor <;> simp_all [impl_BodiesText_loop0_L, keepT, keepH, rens, renH, PV.ren, Blk.ren, fOf, lget, nodup, natIn, lenEq, gtm, PV.unK])
    | cases h
theorem impl_BodiesText_loop0_hpost : ∀ p r e S', (impl_BodiesText_loop0_post p r).get = some (e, S') → e = (impl_BodiesText_loop0_L p).ex r ∧ S' = LSt ((impl_BodiesText_loop0_L p).otl r) ((impl_BodiesText_loop0_L p).ohl r) ((impl_BodiesText_loop0_L p).ogl r) := by
  intro p r e S' h
  unfold impl_BodiesText_loop0_post at h
  simp only [DT.get, Option.some.injEq, Prod.mk.injEq] at h; exact ⟨h.1.symm, h.2.symm⟩

def impl_BodiesText_loops : Nat → Option LoopF := loopTab [(5, impl_BodiesText_loop0_F)]
set_option maxRecDepth 100000 in
theorem impl_BodiesText_l0 : LoopOK Tryd.prog ⟨gam [(64, impl_AreBodies_c), (15, impl_VectorText_c), (55, impl_few_c), (65, impl_slashed_c)], tab, 37, impl_BodiesText_loops⟩ (lp Tryd.f25 0) :=
  loopOK_some (F := impl_BodiesText_loop0_F) (by kernel_rfl) (loopF_ok (E := ⟨gam [(64, impl_AreBodies_c), (15, impl_VectorText_c), (55, impl_few_c), (65, impl_slashed_c)], tab, 37, impl_BodiesText_loops⟩) ⟨gam_cons impl_AreBodies_ok (gam_cons impl_VectorText_ok (gam_cons impl_few_ok (gam_cons impl_slashed_ok (gam_nil)))), tab_ok, by kernel_rfl⟩ (fuel := 100000) (loopsOK_list (l := []) (by kernel_rfl) trivial) (L := impl_BodiesText_loop0_L) (fun p s => by unfold AgreeL; exact ⟨by kernel_rfl, by kernel_rfl⟩) (fun _ _ h => Ex.noConfusion h) impl_BodiesText_loop0_hext impl_BodiesText_loop0_hpost)
/-- loop.example/g01284/impl.BodiesText -/
def impl_BodiesText_tree (a0 : List Body) : DT ((List UInt8) × Bool) :=
  .need ((impl_AreBodies_need a0)) (
  let x0 := impl_AreBodies a0;
  .ask (!x0)
  (
   .leaf ([], false))
  (
   let x1 := ((List.length a0 : Nat) : Int);
   .need ((impl_BodiesText_loop0_ends (a0, x1) (0, []))) (
   let x2 := impl_BodiesText_loop0 (a0, x1) (0, []);
   .need ((impl_slashed_need x2)) (
   let x3 := impl_slashed x2;
   .leaf (x3, true)))))
def impl_BodiesText (a0 : List Body) : (List UInt8) × Bool := (impl_BodiesText_tree a0).val
def impl_BodiesText_need (a0 : List Body) : Bool := (impl_BodiesText_tree a0).ok
def impl_BodiesText_mk (p : (List UInt8) × Bool) : Ret := ⟨.tup [.str p.1, .bool p.2], []⟩
def impl_BodiesText_c0 : Con := fun args => match args with
  | [.vslc 1 .body a0] => some (.need (impl_BodiesText_need a0) (.leaf (impl_BodiesText_mk (impl_BodiesText a0))))
  | _ => none
set_option maxRecDepth 100000 in
theorem impl_BodiesText_ok0 : FunOK Tryd.prog 25 impl_BodiesText_c0.fn := by
  refine con_ok (Γ := gam [(64, impl_AreBodies_c), (15, impl_VectorText_c), (55, impl_few_c), (65, impl_slashed_c)]) (gam_cons impl_AreBodies_ok (gam_cons impl_VectorText_ok (gam_cons impl_few_ok (gam_cons impl_slashed_ok (gam_nil))))) tab_ok (by kernel_rfl) Tryd.func25 (by kernel_rfl) (by kernel_rfl) Tryd.ntmps25 Tryd.results25 (loops := impl_BodiesText_loops) (loopsOK_list (l := [lp Tryd.f25 0]) (by kernel_rfl) ⟨impl_BodiesText_l0, trivial⟩) 100000 fun args t h => ?_
  unfold impl_BodiesText_c0 at h
  split at h
  · rename_i a0
    cases h
    exact ⟨rfl, agree_need (mk := impl_BodiesText_mk) (t := impl_BodiesText_tree a0) (by unfold Agree; kernel_rfl)⟩
  · cases h
def impl_BodiesText_c : Con := fun args => impl_BodiesText_c0 (norms 0 [.slc .body] args)
set_option maxRecDepth 100000 in
theorem impl_BodiesText_ok : FunOK Tryd.prog 25 impl_BodiesText_c.fn := con_norm [.slc .body] impl_BodiesText_ok0

/-- loop.example/g01284/laws.sameFloat -/
def laws_sameFloat_tree (a0 : Nat) (a1 : Nat) : DT (Bool) :=
  let x0 := fne .f64 a0 a0;
  .ask x0
  (
   let x1 := fne .f64 a0 a0;
   .ask x1
   (
    let x2 := fne .f64 a1 a1;
    .leaf x2)
   (
    .leaf false))
  (
   let x1 := fne .f64 a1 a1;
   .ask x1
   (
    let x2 := fne .f64 a0 a0;
    .ask x2
    (
     let x3 := fne .f64 a1 a1;
     .leaf x3)
    (
     .leaf false))
   (
    let x2 := feq .f64 a0 0;
    .ask x2
    (
     let x3 := feq .f64 a1 0;
     .ask x3
     (
      let x4 := fdiv .f64 4607182418800017408 a0;
      let x5 := fgt .f64 x4 0;
      let x6 := fdiv .f64 4607182418800017408 a1;
      let x7 := fgt .f64 x6 0;
      let x8 := (x5 == x7);
      .leaf x8)
     (
      let x4 := feq .f64 a0 a1;
      .leaf x4))
    (
     let x3 := feq .f64 a0 a1;
     .leaf x3)))
def laws_sameFloat (a0 : Nat) (a1 : Nat) : Bool := (laws_sameFloat_tree a0 a1).val
def laws_sameFloat_mk (p : Bool) : Ret := ⟨.bool p, []⟩
def laws_sameFloat_c : Con := fun args => match args with
  | [.flt .f64 a0, .flt .f64 a1] => some (.leaf (laws_sameFloat_mk (laws_sameFloat a0 a1)))
  | _ => none
set_option maxRecDepth 100000 in
theorem laws_sameFloat_ok : FunOK Tryd.prog 75 laws_sameFloat_c.fn := by
  refine con_ok (Γ := gam []) (gam_nil) tab_ok (by kernel_rfl) Tryd.func75 (by kernel_rfl) (by kernel_rfl) Tryd.ntmps75 Tryd.results75 (loopsOK_none rfl _) 100000 fun args t h => ?_
  unfold laws_sameFloat_c at h
  split at h
  · rename_i a0 a1
    cases h
    exact ⟨rfl, agree_tot (mk := laws_sameFloat_mk) (t := laws_sameFloat_tree a0 a1) (by unfold Agree; kernel_rfl) (by kernel_rfl)⟩
  · cases h

/-- loop.example/g01284/laws.eqVector -/
def laws_eqVector_tree (a0 : Vec) (a1 : Vec) : DT (Bool) :=
  .need ((fconvOk .f32 a0.X .f64)) (
  let x0 := fconv .f32 a0.X .f64;
  .need ((fconvOk .f32 a1.X .f64)) (
  let x1 := fconv .f32 a1.X .f64;
  let x2 := laws_sameFloat x0 x1;
  .ask (!x2)
  (
   .leaf false)
  (
   .need ((fconvOk .f32 a0.Y .f64)) (
   let x3 := fconv .f32 a0.Y .f64;
   .need ((fconvOk .f32 a1.Y .f64)) (
   let x4 := fconv .f32 a1.Y .f64;
   let x5 := laws_sameFloat x3 x4;
   .ask (!x5)
   (
    .leaf false)
   (
    .need ((fconvOk .f32 a0.Z .f64)) (
    let x6 := fconv .f32 a0.Z .f64;
    .need ((fconvOk .f32 a1.Z .f64)) (
    let x7 := fconv .f32 a1.Z .f64;
    let x8 := laws_sameFloat x6 x7;
    .ask (!x8)
    (
     .leaf false)
    (
     .leaf true)))))))))
def laws_eqVector (a0 : Vec) (a1 : Vec) : Bool := (laws_eqVector_tree a0 a1).val
def laws_eqVector_need (a0 : Vec) (a1 : Vec) : Bool := (laws_eqVector_tree a0 a1).ok
def laws_eqVector_mk (p : Bool) : Ret := ⟨.bool p, []⟩
def laws_eqVector_c : Con := fun args => match args with
  | [.agg [.flt .f32 a0_0, .flt .f32 a0_1, .flt .f32 a0_2], .agg [.flt .f32 a1_0, .flt .f32 a1_1, .flt .f32 a1_2]] => some (.need (laws_eqVector_need (⟨a0_0, a0_1, a0_2⟩ : Vec) (⟨a1_0, a1_1, a1_2⟩ : Vec)) (.leaf (laws_eqVector_mk (laws_eqVector (⟨a0_0, a0_1, a0_2⟩ : Vec) (⟨a1_0, a1_1, a1_2⟩ : Vec)))))
  | _ => none
set_option maxRecDepth 100000 in
theorem laws_eqVector_ok : FunOK Tryd.prog 108 laws_eqVector_c.fn := by
  refine con_ok (Γ := gam [(75, laws_sameFloat_c)]) (gam_cons laws_sameFloat_ok (gam_nil)) tab_ok (by kernel_rfl) Tryd.func108 (by kernel_rfl) (by kernel_rfl) Tryd.ntmps108 Tryd.results108 (loopsOK_none rfl _) 100000 fun args t h => ?_
  unfold laws_eqVector_c at h
  split at h
  · rename_i a0_0 a0_1 a0_2 a1_0 a1_1 a1_2
    cases h
    exact ⟨rfl, agree_need (mk := laws_eqVector_mk) (t := laws_eqVector_tree (⟨a0_0, a0_1, a0_2⟩ : Vec) (⟨a1_0, a1_1, a1_2⟩ : Vec)) (by unfold Agree; kernel_rfl)⟩
  · cases h

/-- loop.example/g01284/laws.eqBody -/
def laws_eqBody_tree (a0 : Body) (a1 : Body) : DT (Bool) :=
  .need ((laws_eqVector_need (⟨a0.At.X, a0.At.Y, a0.At.Z⟩ : Vec) (⟨a1.At.X, a1.At.Y, a1.At.Z⟩ : Vec))) (
  let x0 := laws_eqVector (⟨a0.At.X, a0.At.Y, a0.At.Z⟩ : Vec) (⟨a1.At.X, a1.At.Y, a1.At.Z⟩ : Vec);
  .ask (!x0)
  (
   .leaf false)
  (
   .need ((laws_eqVector_need (⟨a0.Speed.X, a0.Speed.Y, a0.Speed.Z⟩ : Vec) (⟨a1.Speed.X, a1.Speed.Y, a1.Speed.Z⟩ : Vec))) (
   let x1 := laws_eqVector (⟨a0.Speed.X, a0.Speed.Y, a0.Speed.Z⟩ : Vec) (⟨a1.Speed.X, a1.Speed.Y, a1.Speed.Z⟩ : Vec);
   .ask (!x1)
   (
    .leaf false)
   (
    .need ((fconvOk .f32 a0.Mass .f64)) (
    let x2 := fconv .f32 a0.Mass .f64;
    .need ((fconvOk .f32 a1.Mass .f64)) (
    let x3 := fconv .f32 a1.Mass .f64;
    let x4 := laws_sameFloat x2 x3;
    .ask (!x4)
    (
     .leaf false)
    (
     .leaf true)))))))
def laws_eqBody (a0 : Body) (a1 : Body) : Bool := (laws_eqBody_tree a0 a1).val
def laws_eqBody_need (a0 : Body) (a1 : Body) : Bool := (laws_eqBody_tree a0 a1).ok
def laws_eqBody_mk (p : Bool) : Ret := ⟨.bool p, []⟩
def laws_eqBody_c : Con := fun args => match args with
  | [.agg [.flt .f32 a0_0, .flt .f32 a0_1, .flt .f32 a0_2, .flt .f32 a0_3, .flt .f32 a0_4, .flt .f32 a0_5, .flt .f32 a0_6], .agg [.flt .f32 a1_0, .flt .f32 a1_1, .flt .f32 a1_2, .flt .f32 a1_3, .flt .f32 a1_4, .flt .f32 a1_5, .flt .f32 a1_6]] => some (.need (laws_eqBody_need (⟨⟨a0_0, a0_1, a0_2⟩, ⟨a0_3, a0_4, a0_5⟩, a0_6⟩ : Body) (⟨⟨a1_0, a1_1, a1_2⟩, ⟨a1_3, a1_4, a1_5⟩, a1_6⟩ : Body)) (.leaf (laws_eqBody_mk (laws_eqBody (⟨⟨a0_0, a0_1, a0_2⟩, ⟨a0_3, a0_4, a0_5⟩, a0_6⟩ : Body) (⟨⟨a1_0, a1_1, a1_2⟩, ⟨a1_3, a1_4, a1_5⟩, a1_6⟩ : Body)))))
  | _ => none
set_option maxRecDepth 100000 in
theorem laws_eqBody_ok : FunOK Tryd.prog 66 laws_eqBody_c.fn := by
  refine con_ok (Γ := gam [(108, laws_eqVector_c), (75, laws_sameFloat_c)]) (gam_cons laws_eqVector_ok (gam_cons laws_sameFloat_ok (gam_nil))) tab_ok (by kernel_rfl) Tryd.func66 (by kernel_rfl) (by kernel_rfl) Tryd.ntmps66 Tryd.results66 (loopsOK_none rfl _) 100000 fun args t h => ?_
  unfold laws_eqBody_c at h
  split at h
  · rename_i a0_0 a0_1 a0_2 a0_3 a0_4 a0_5 a0_6 a1_0 a1_1 a1_2 a1_3 a1_4 a1_5 a1_6
    cases h
    exact ⟨rfl, agree_need (mk := laws_eqBody_mk) (t := laws_eqBody_tree (⟨⟨a0_0, a0_1, a0_2⟩, ⟨a0_3, a0_4, a0_5⟩, a0_6⟩ : Body) (⟨⟨a1_0, a1_1, a1_2⟩, ⟨a1_3, a1_4, a1_5⟩, a1_6⟩ : Body)) (by unfold Agree; kernel_rfl)⟩
  · cases h

/-- a loop of laws_eqBodyS -/
def laws_eqBodyS_loop0_step (p : List Body × List Body) (s : Int) : Round (Int) ((Unit) ⊕ (Unit)) :=
  let x0 := ((List.length p.1 : Nat) : Int);
  let x1 := decide (s < x0);
  .ask x1
  (
   .need ((decide (0 ≤ s) && decide (s < ((List.length p.1 : Nat) : Int)))) (
   let x2 := List.getD p.1 (Int.toNat s) default;
   .need ((decide (0 ≤ s) && decide (s < ((List.length p.2 : Nat) : Int)))) (
   let x3 := List.getD p.2 (Int.toNat s) default;
   .need ((laws_eqBody_need (⟨⟨x2.At.X, x2.At.Y, x2.At.Z⟩, ⟨x2.Speed.X, x2.Speed.Y, x2.Speed.Z⟩, x2.Mass⟩ : Body) (⟨⟨x3.At.X, x3.At.Y, x3.At.Z⟩, ⟨x3.Speed.X, x3.Speed.Y, x3.Speed.Z⟩, x3.Mass⟩ : Body))) (
   let x4 := laws_eqBody (⟨⟨x2.At.X, x2.At.Y, x2.At.Z⟩, ⟨x2.Speed.X, x2.Speed.Y, x2.Speed.Z⟩, x2.Mass⟩ : Body) (⟨⟨x3.At.X, x3.At.Y, x3.At.Z⟩, ⟨x3.Speed.X, x3.Speed.Y, x3.Speed.Z⟩, x3.Mass⟩ : Body);
   .ask (!x4)
   (
    .leaf (.inr (.inl ()), []))
   (
    let x5 := IntKind.wrap .i64 (s + 1);
    .leaf (.inl x5, []))))))
  (
   .leaf (.inr (.inr ()), []))
def laws_eqBodyS_loop0_L (p : List Body × List Body) : LoopS (Int) ((Unit) ⊕ (Unit)) := { tl := fun s => [.vslc 1 .body p.1, .vslc 2 .body p.2, .junk, .junk, .junk, .int .i64 s], hl := fun s => [], ex := fun r => match r with | .inl r => .ret | .inr r => .exit 0, otl := fun r => match r with | .inl r => [.junk, .junk, .junk, .junk, .bool false] | .inr r => [.junk], ohl := fun r => match r with | .inl r => [] | .inr r => [] }
def laws_eqBodyS_loop0_ext : St → Option ((List Body × List Body) × (Int) × List Nat) := fun S => match (S.tm 0).unK, (S.tm 1).unK, (S.tm 5).unK with
  | .vslc 1 .body q0, .vslc 2 .body q1, .int .i64 q2 => some ((q0, q1), q2, [])
  | _, _, _ => none
def laws_eqBodyS_loop0_post (p : List Body × List Body) (r : (Unit) ⊕ (Unit)) : DT (Ex × St) := .ask (isL r) (.leaf (.ret, LSt [.junk, .junk, .junk, .junk, .bool false] [])) (.leaf (.exit 0, LSt [.junk] []))
def laws_eqBodyS_loop0 (p : List Body × List Body) (s : Int) : (Unit) ⊕ (Unit) := loopVal (laws_eqBodyS_loop0_step p) s
def laws_eqBodyS_loop0_ends (p : List Body × List Body) (s : Int) : Bool := loopEnds (laws_eqBodyS_loop0_step p) s
def laws_eqBodyS_loop0_F : LoopF := loopF laws_eqBodyS_loop0_step laws_eqBodyS_loop0_ext laws_eqBodyS_loop0_post
theorem laws_eqBodyS_loop0_hext : ∀ S p s fl, laws_eqBodyS_loop0_ext S = some (p, s, fl) → Norm S fl ((laws_eqBodyS_loop0_L p).tl s) ((laws_eqBodyS_loop0_L p).hl s) (laws_eqBodyS_loop0_L p).gl := by
  intro S p s fl h
  unfold laws_eqBodyS_loop0_ext at h
  (repeat' split at h) <;> first
    | (cases h; constructor <;> simp_all [laws_eqBodyS_loop0_L, keepT, keepH, rens, renH, PV.ren, Blk.ren, fOf, lget, nodup, natIn, lenEq, gtm, PV.unK])
    | cases h
theorem laws_eqBodyS_loop0_hpost : ∀ p r e S', (laws_eqBodyS_loop0_post p r).get = some (e, S') → e = (laws_eqBodyS_loop0_L p).ex r ∧ S' = LSt ((laws_eqBodyS_loop0_L p).otl r) ((laws_eqBodyS_loop0_L p).ohl r) ((laws_eqBodyS_loop0_L p).ogl r) := by
  intro p r e S' h
  unfold laws_eqBodyS_loop0_post at h
  cases r <;> (simp only [isL, DT.get, Option.some.injEq, Prod.mk.injEq] at h; exact ⟨h.1.symm, h.2.symm⟩)

def laws_eqBodyS_loops : Nat → Option LoopF := loopTab [(4, laws_eqBodyS_loop0_F)]
set_option maxRecDepth 100000 in
theorem laws_eqBodyS_l0 : LoopOK Tryd.prog ⟨gam [(66, laws_eqBody_c)], tab, 27, laws_eqBodyS_loops⟩ (lp Tryd.f26 0) :=
  loopOK_some (F := laws_eqBodyS_loop0_F) (by kernel_rfl) (loopF_ok (E := ⟨gam [(66, laws_eqBody_c)], tab, 27, laws_eqBodyS_loops⟩) ⟨gam_cons laws_eqBody_ok (gam_nil), tab_ok, by kernel_rfl⟩ (fuel := 100000) (loopsOK_list (l := []) (by kernel_rfl) trivial) (L := laws_eqBodyS_loop0_L) (fun p s => by unfold AgreeL; exact ⟨by kernel_rfl, by kernel_rfl⟩) (fun _ r h => by cases r <;> exact Ex.noConfusion h) laws_eqBodyS_loop0_hext laws_eqBodyS_loop0_hpost)
/-- loop.example/g01284/laws.eqBodyS -/
def laws_eqBodyS_tree (a0 : List Body) (a1 : List Body) : DT (Bool) :=
  let x0 := ((List.length a0 : Nat) : Int);
  let x1 := ((List.length a1 : Nat) : Int);
  let x2 := (x0 != x1);
  .ask x2
  (
   .leaf false)
  (
   .need ((laws_eqBodyS_loop0_ends (a0, a1) 0)) (
   let x3 := laws_eqBodyS_loop0 (a0, a1) 0;
   .ask ((isL x3))
   (
    .leaf false)
   (
    .leaf true)))
def laws_eqBodyS (a0 : List Body) (a1 : List Body) : Bool := (laws_eqBodyS_tree a0 a1).val
def laws_eqBodyS_need (a0 : List Body) (a1 : List Body) : Bool := (laws_eqBodyS_tree a0 a1).ok
def laws_eqBodyS_mk (p : Bool) : Ret := ⟨.bool p, []⟩
def laws_eqBodyS_c0 : Con := fun args => match args with
  | [.vslc 1 .body a0, .vslc 2 .body a1] => some (.need (laws_eqBodyS_need a0 a1) (.leaf (laws_eqBodyS_mk (laws_eqBodyS a0 a1))))
  | _ => none
set_option maxRecDepth 100000 in
theorem laws_eqBodyS_ok0 : FunOK Tryd.prog 26 laws_eqBodyS_c0.fn := by
  refine con_ok (Γ := gam [(66, laws_eqBody_c)]) (gam_cons laws_eqBody_ok (gam_nil)) tab_ok (by kernel_rfl) Tryd.func26 (by kernel_rfl) (by kernel_rfl) Tryd.ntmps26 Tryd.results26 (loops := laws_eqBodyS_loops) (loopsOK_list (l := [lp Tryd.f26 0]) (by kernel_rfl) ⟨laws_eqBodyS_l0, trivial⟩) 100000 fun args t h => ?_
  unfold laws_eqBodyS_c0 at h
  split at h
  · rename_i a0 a1
    cases h
    exact ⟨rfl, agree_need (mk := laws_eqBodyS_mk) (t := laws_eqBodyS_tree a0 a1) (by unfold Agree; kernel_rfl)⟩
  · cases h
def laws_eqBodyS_c : Con := fun args => laws_eqBodyS_c0 (norms 0 [.slc .body, .slc .body] args)
set_option maxRecDepth 100000 in
theorem laws_eqBodyS_ok : FunOK Tryd.prog 26 laws_eqBodyS_c.fn := con_norm [.slc .body, .slc .body] laws_eqBodyS_ok0

/-- loop.example/g01284/laws.FnExactBodiesText -/
def laws_FnExactBodiesText_tree (a0 : List Body) : DT (Bool) :=
  let x0 := laws_szBodyS a0 1048576;
  let x1 := decide (x0 < 0);
  .ask x1
  (
   .leaf true)
  (
   .need ((laws_toBodyS_need a0)) (
   let x2 := laws_toBodyS a0;
   .need ((spec_BodiesText_need x2)) (
   let x3 := spec_BodiesText x2;
   .need ((laws_toBodyS_need a0)) (
   let x4 := laws_toBodyS a0;
   .need ((impl_BodiesText_need x4)) (
   let x5 := impl_BodiesText x4;
   let x6 := (!(x5.1 == x3.1));
   .ask x6
   (
    .leaf false)
   (
    let x7 := (!(x5.2 == x3.2));
    .ask x7
    (
     .leaf false)
    (
     .need ((laws_toBodyS_need a0)) (
     let x8 := laws_toBodyS a0;
     .need ((laws_eqBodyS_need x4 x8)) (
     let x9 := laws_eqBodyS x4 x8;
     .ask (!x9)
     (
      .leaf false)
     (
      .leaf true))))))))))
def laws_FnExactBodiesText (a0 : List Body) : Bool := (laws_FnExactBodiesText_tree a0).val
def laws_FnExactBodiesText_need (a0 : List Body) : Bool := (laws_FnExactBodiesText_tree a0).ok
def laws_FnExactBodiesText_mk (p : Bool) : Ret := ⟨.bool p, []⟩
def laws_FnExactBodiesText_c0 : Con := fun args => match args with
  | [.vslc 1 .body a0] => some (.need (laws_FnExactBodiesText_need a0) (.leaf (laws_FnExactBodiesText_mk (laws_FnExactBodiesText a0))))
  | _ => none
set_option maxRecDepth 100000 in
theorem laws_FnExactBodiesText_ok0 : FunOK Tryd.prog 6 laws_FnExactBodiesText_c0.fn := by
  refine con_ok (Γ := gam [(22, laws_szBodyS_c), (24, laws_toBodyS_c), (23, spec_BodiesText_c), (25, impl_BodiesText_c), (26, laws_eqBodyS_c)]) (gam_cons laws_szBodyS_ok (gam_cons laws_toBodyS_ok (gam_cons spec_BodiesText_ok (gam_cons impl_BodiesText_ok (gam_cons laws_eqBodyS_ok (gam_nil)))))) tab_ok (by kernel_rfl) Tryd.func6 (by kernel_rfl) (by kernel_rfl) Tryd.ntmps6 Tryd.results6 (loopsOK_none rfl _) 100000 fun args t h => ?_
  unfold laws_FnExactBodiesText_c0 at h
  split at h
  · rename_i a0
    cases h
    exact ⟨rfl, agree_need (mk := laws_FnExactBodiesText_mk) (t := laws_FnExactBodiesText_tree a0) (by unfold Agree; kernel_rfl)⟩
  · cases h
def laws_FnExactBodiesText_c : Con := fun args => laws_FnExactBodiesText_c0 (norms 0 [.slc .body] args)
set_option maxRecDepth 100000 in
theorem laws_FnExactBodiesText_ok : FunOK Tryd.prog 6 laws_FnExactBodiesText_c.fn := con_norm [.slc .body] laws_FnExactBodiesText_ok0

/-- loop.example/g01284/laws.szEntry -/
def laws_szEntry_tree (a0 : Entry) (a1 : Int) : DT (Int) :=
  let x0 := ((List.length a0.Name : Nat) : Int);
  let x1 := IntKind.wrap .i64 (a1 - x0);
  let x2 := decide (x1 < 0);
  .ask x2
  (
   .leaf (-1))
  (
   .leaf x1)
def laws_szEntry (a0 : Entry) (a1 : Int) : Int := (laws_szEntry_tree a0 a1).val
def laws_szEntry_mk (p : Int) : Ret := ⟨.int .i64 p, []⟩
def laws_szEntry_c : Con := fun args => match args with
  | [.agg [.str a0_0, .flt .f32 a0_1, .flt .f32 a0_2, .flt .f32 a0_3, .flt .f32 a0_4, .flt .f32 a0_5, .flt .f32 a0_6, .flt .f32 a0_7], .int .i64 a1] => some (.leaf (laws_szEntry_mk (laws_szEntry (⟨a0_0, a0_1, ⟨a0_2, a0_3, a0_4, a0_5, a0_6, a0_7⟩⟩ : Entry) a1)))
  | _ => none
set_option maxRecDepth 100000 in
theorem laws_szEntry_ok : FunOK Tryd.prog 67 laws_szEntry_c.fn := by
  refine con_ok (Γ := gam []) (gam_nil) tab_ok (by kernel_rfl) Tryd.func67 (by kernel_rfl) (by kernel_rfl) Tryd.ntmps67 Tryd.results67 (loopsOK_none rfl _) 100000 fun args t h => ?_
  unfold laws_szEntry_c at h
  split at h
  · rename_i a0_0 a0_1 a0_2 a0_3 a0_4 a0_5 a0_6 a0_7 a1
    cases h
    exact ⟨rfl, agree_tot (mk := laws_szEntry_mk) (t := laws_szEntry_tree (⟨a0_0, a0_1, ⟨a0_2, a0_3, a0_4, a0_5, a0_6, a0_7⟩⟩ : Entry) a1) (by unfold Agree; kernel_rfl) (by kernel_rfl)⟩
  · cases h

/-- a loop of laws_szEntryS -/
def laws_szEntryS_loop0_step (p : List Entry) (s : Int × Int) : Round (Int × Int) ((Int) ⊕ (Int)) :=
  let x0 := ((List.length p : Nat) : Int);
  let x1 := decide (s.2 < x0);
  .ask x1
  (
   .need ((decide (0 ≤ s.2) && decide (s.2 < ((List.length p : Nat) : Int)))) (
   let x2 := List.getD p (Int.toNat s.2) default;
   let x3 := laws_szEntry (⟨x2.Name, x2.Mass, ⟨x2.Orb.Long, x2.Orb.Round, x2.Orb.Tilt, x2.Orb.Node, x2.Orb.Peri, x2.Orb.Phase⟩⟩ : Entry) s.1;
   let x4 := decide (x3 < 0);
   .ask x4
   (
    .leaf (.inr (.inl (-1)), []))
   (
    let x5 := IntKind.wrap .i64 (s.2 + 1);
    .leaf (.inl (x3, x5), []))))
  (
   .leaf (.inr (.inr s.1), []))
def laws_szEntryS_loop0_L (p : List Entry) : LoopS (Int × Int) ((Int) ⊕ (Int)) := { tl := fun s => [.vslc 1 .entry p, .int .i64 s.1, .junk, .junk, .junk, .int .i64 s.2], hl := fun s => [], ex := fun r => match r with | .inl r => .ret | .inr r => .exit 0, otl := fun r => match r with | .inl r => [.junk, .junk, .junk, .junk, .int .i64 r] | .inr r => [.junk, .int .i64 r], ohl := fun r => match r with | .inl r => [] | .inr r => [] }
def laws_szEntryS_loop0_ext : St → Option ((List Entry) × (Int × Int) × List Nat) := fun S => match (S.tm 0).unK, (S.tm 1).unK, (S.tm 5).unK with
  | .vslc 1 .entry q0, .int .i64 q1, .int .i64 q2 => some (q0, (q1, q2), [])
  | _, _, _ => none
def laws_szEntryS_loop0_post (p : List Entry) (r : (Int) ⊕ (Int)) : DT (Ex × St) := .ask (isL r) (.leaf (.ret, LSt [.junk, .junk, .junk, .junk, .int .i64 ((leftD r))] [])) (.leaf (.exit 0, LSt [.junk, .int .i64 ((rightD r))] []))
def laws_szEntryS_loop0 (p : List Entry) (s : Int × Int) : (Int) ⊕ (Int) := loopVal (laws_szEntryS_loop0_step p) s
def laws_szEntryS_loop0_ends (p : List Entry) (s : Int × Int) : Bool := loopEnds (laws_szEntryS_loop0_step p) s
def laws_szEntryS_loop0_F : LoopF := loopF laws_szEntryS_loop0_step laws_szEntryS_loop0_ext laws_szEntryS_loop0_post
theorem laws_szEntryS_loop0_hext : ∀ S p s fl, laws_szEntryS_loop0_ext S = some (p, s, fl) → Norm S fl ((laws_szEntryS_loop0_L p).tl s) ((laws_szEntryS_loop0_L p).hl s) (laws_szEntryS_loop0_L p).gl := by
  intro S p s fl h
  unfold laws_szEntryS_loop0_ext at h
  (repeat' split at h) <;> first
    | (cases h; constructor <;> simp_all [laws_szEntryS_loop0_L, keepT, keepH, rens, renH, PV.ren, Blk.ren, fOf, lget, nodup, natIn, lenEq, gtm, PV.unK])
    | cases h
theorem laws_szEntryS_loop0_hpost : ∀ p r e S', (laws_szEntryS_loop0_post p r).get = some (e, S') → e = (laws_szEntryS_loop0_L p).ex r ∧ S' = LSt ((laws_szEntryS_loop0_L p).otl r) ((laws_szEntryS_loop0_L p).ohl r) ((laws_szEntryS_loop0_L p).ogl r) := by
  intro p r e S' h
  unfold laws_szEntryS_loop0_post at h
  cases r <;> (simp only [isL, DT.get, Option.some.injEq, Prod.mk.injEq] at h; exact ⟨h.1.symm, h.2.symm⟩)

def laws_szEntryS_loops : Nat → Option LoopF := loopTab [(5, laws_szEntryS_loop0_F)]
set_option maxRecDepth 100000 in
theorem laws_szEntryS_l0 : LoopOK Tryd.prog ⟨gam [(67, laws_szEntry_c)], tab, 27, laws_szEntryS_loops⟩ (lp Tryd.f27 0) :=
  loopOK_some (F := laws_szEntryS_loop0_F) (by kernel_rfl) (loopF_ok (E := ⟨gam [(67, laws_szEntry_c)], tab, 27, laws_szEntryS_loops⟩) ⟨gam_cons laws_szEntry_ok (gam_nil), tab_ok, by kernel_rfl⟩ (fuel := 100000) (loopsOK_list (l := []) (by kernel_rfl) trivial) (L := laws_szEntryS_loop0_L) (fun p s => by unfold AgreeL; exact ⟨by kernel_rfl, by kernel_rfl⟩) (fun _ r h => by cases r <;> exact Ex.noConfusion h) laws_szEntryS_loop0_hext laws_szEntryS_loop0_hpost)
/-- loop.example/g01284/laws.szEntryS -/
def laws_szEntryS_tree (a0 : List Entry) (a1 : Int) : DT (Int) :=
  let x0 := ((List.length a0 : Nat) : Int);
  let x1 := IntKind.wrap .i64 (a1 - x0);
  let x2 := decide (x1 < 0);
  .ask x2
  (
   .leaf (-1))
  (
   .need ((laws_szEntryS_loop0_ends a0 (x1, 0))) (
   let x3 := laws_szEntryS_loop0 a0 (x1, 0);
   .ask ((isL x3))
   (
    .leaf ((leftD x3)))
   (
    .leaf ((rightD x3)))))
def laws_szEntryS (a0 : List Entry) (a1 : Int) : Int := (laws_szEntryS_tree a0 a1).val
def laws_szEntryS_need (a0 : List Entry) (a1 : Int) : Bool := (laws_szEntryS_tree a0 a1).ok
def laws_szEntryS_mk (p : Int) : Ret := ⟨.int .i64 p, []⟩
def laws_szEntryS_c0 : Con := fun args => match args with
  | [.vslc 1 .entry a0, .int .i64 a1] => some (.need (laws_szEntryS_need a0 a1) (.leaf (laws_szEntryS_mk (laws_szEntryS a0 a1))))
  | _ => none
set_option maxRecDepth 100000 in
theorem laws_szEntryS_ok0 : FunOK Tryd.prog 27 laws_szEntryS_c0.fn := by
  refine con_ok (Γ := gam [(67, laws_szEntry_c)]) (gam_cons laws_szEntry_ok (gam_nil)) tab_ok (by kernel_rfl) Tryd.func27 (by kernel_rfl) (by kernel_rfl) Tryd.ntmps27 Tryd.results27 (loops := laws_szEntryS_loops) (loopsOK_list (l := [lp Tryd.f27 0]) (by kernel_rfl) ⟨laws_szEntryS_l0, trivial⟩) 100000 fun args t h => ?_
  unfold laws_szEntryS_c0 at h
  split at h
  · rename_i a0 a1
    cases h
    exact ⟨rfl, agree_need (mk := laws_szEntryS_mk) (t := laws_szEntryS_tree a0 a1) (by unfold Agree; kernel_rfl)⟩
  · cases h
def laws_szEntryS_c : Con := fun args => laws_szEntryS_c0 (norms 0 [.slc .entry, .none] args)
set_option maxRecDepth 100000 in
theorem laws_szEntryS_ok : FunOK Tryd.prog 27 laws_szEntryS_c.fn := con_norm [.slc .entry, .none] laws_szEntryS_ok0

/-- loop.example/g01284/laws.toEntry -/
def laws_toEntry_tree (a0 : Entry) : DT (Entry) :=
  let x0 := laws_toOrbit (⟨a0.Orb.Long, a0.Orb.Round, a0.Orb.Tilt, a0.Orb.Node, a0.Orb.Peri, a0.Orb.Phase⟩ : Orbit);
  .leaf ((⟨a0.Name, a0.Mass, ⟨x0.Long, x0.Round, x0.Tilt, x0.Node, x0.Peri, x0.Phase⟩⟩ : Entry))
def laws_toEntry (a0 : Entry) : Entry := (laws_toEntry_tree a0).val
def laws_toEntry_mk (p : Entry) : Ret := ⟨.agg [.str p.Name, .flt .f32 p.Mass, .flt .f32 p.Orb.Long, .flt .f32 p.Orb.Round, .flt .f32 p.Orb.Tilt, .flt .f32 p.Orb.Node, .flt .f32 p.Orb.Peri, .flt .f32 p.Orb.Phase], []⟩
def laws_toEntry_c : Con := fun args => match args with
  | [.agg [.str a0_0, .flt .f32 a0_1, .flt .f32 a0_2, .flt .f32 a0_3, .flt .f32 a0_4, .flt .f32 a0_5, .flt .f32 a0_6, .flt .f32 a0_7]] => some (.leaf (laws_toEntry_mk (laws_toEntry (⟨a0_0, a0_1, ⟨a0_2, a0_3, a0_4, a0_5, a0_6, a0_7⟩⟩ : Entry))))
  | _ => none
set_option maxRecDepth 100000 in
theorem laws_toEntry_ok : FunOK Tryd.prog 70 laws_toEntry_c.fn := by
  refine con_ok (Γ := gam [(20, laws_toOrbit_c)]) (gam_cons laws_toOrbit_ok (gam_nil)) tab_ok (by kernel_rfl) Tryd.func70 (by kernel_rfl) (by kernel_rfl) Tryd.ntmps70 Tryd.results70 (loopsOK_none rfl _) 100000 fun args t h => ?_
  unfold laws_toEntry_c at h
  split at h
  · rename_i a0_0 a0_1 a0_2 a0_3 a0_4 a0_5 a0_6 a0_7
    cases h
    exact ⟨rfl, agree_tot (mk := laws_toEntry_mk) (t := laws_toEntry_tree (⟨a0_0, a0_1, ⟨a0_2, a0_3, a0_4, a0_5, a0_6, a0_7⟩⟩ : Entry)) (by unfold Agree; kernel_rfl) (by kernel_rfl)⟩
  · cases h

/-- a loop of laws_toEntryS -/
def laws_toEntryS_loop0_step (p : List Entry) (s : Int × List Entry) : Round (Int × List Entry) (List Entry) :=
  let x0 := ((List.length p : Nat) : Int);
  let x1 := decide (s.1 < x0);
  .ask x1
  (
   .need ((decide (0 ≤ s.1) && decide (s.1 < ((List.length p : Nat) : Int)))) (
   let x2 := List.getD p (Int.toNat s.1) default;
   let x3 := laws_toEntry (⟨x2.Name, x2.Mass, ⟨x2.Orb.Long, x2.Orb.Round, x2.Orb.Tilt, x2.Orb.Node, x2.Orb.Peri, x2.Orb.Phase⟩⟩ : Entry);
   .need ((decide (0 ≤ s.1) && decide (s.1 < ((List.length s.2 : Nat) : Int)))) (
   .need ((decide ((Int.toNat s.1) < List.length s.2))) (
   let x4 := List.set s.2 (Int.toNat s.1) (⟨x3.Name, x3.Mass, ⟨x3.Orb.Long, x3.Orb.Round, x3.Orb.Tilt, x3.Orb.Node, x3.Orb.Peri, x3.Orb.Phase⟩⟩ : Entry);
   let x5 := IntKind.wrap .i64 (s.1 + 1);
   .leaf (.inl (x5, x4), [0])))))
  (
   .leaf (.inr s.2, [0]))
def laws_toEntryS_loop0_L (p : List Entry) : LoopS (Int × List Entry) (List Entry) := { tl := fun s => [.vslc 1 .entry p, .junk, .junk, .own 0, .int .i64 s.1], hl := fun s => [some (.typed 101 .entry s.2)], ex := fun r => .exit 0, otl := fun r => [.junk, .junk, .junk, .own 0], ohl := fun r => [some (.typed 101 .entry r)] }
def laws_toEntryS_loop0_ext : St → Option ((List Entry) × (Int × List Entry) × List Nat) := fun S => match (S.tm 0).unK, (S.tm 3).unK, (S.tm 4).unK with
  | .vslc 1 .entry q0, .own i0, .int .i64 q1 => (match S.hp i0 with
    | some (.typed 101 .entry q2) => some (q0, (q1, q2), [i0])
    | _ => none)
  | _, _, _ => none
def laws_toEntryS_loop0_post (p : List Entry) (r : List Entry) : DT (Ex × St) := .leaf (.exit 0, LSt [.junk, .junk, .junk, .own 0] [some (.typed 101 .entry r)])
def laws_toEntryS_loop0 (p : List Entry) (s : Int × List Entry) : List Entry := loopVal (laws_toEntryS_loop0_step p) s
def laws_toEntryS_loop0_ends (p : List Entry) (s : Int × List Entry) : Bool := loopEnds (laws_toEntryS_loop0_step p) s
def laws_toEntryS_loop0_F : LoopF := loopF laws_toEntryS_loop0_step laws_toEntryS_loop0_ext laws_toEntryS_loop0_post
theorem laws_toEntryS_loop0_hext : ∀ S p s fl, laws_toEntryS_loop0_ext S = some (p, s, fl) → Norm S fl ((laws_toEntryS_loop0_L p).tl s) ((laws_toEntryS_loop0_L p).hl s) (laws_toEntryS_loop0_L p).gl := by
  intro S p s fl h
  unfold laws_toEntryS_loop0_ext at h
  (repeat' split at h) <;> first
    | (cases h; constructor <;> simp_all [laws_toEntryS_loop0_L, keepT, keepH, rens, renH, PV.ren, Blk.ren, fOf, lget, nodup, natIn, lenEq, gtm, PV.unK])
    | cases h
theorem laws_toEntryS_loop0_hpost : ∀ p r e S', (laws_toEntryS_loop0_post p r).get = some (e, S') → e = (laws_toEntryS_loop0_L p).ex r ∧ S' = LSt ((laws_toEntryS_loop0_L p).otl r) ((laws_toEntryS_loop0_L p).ohl r) ((laws_toEntryS_loop0_L p).ogl r) := by
  intro p r e S' h
  unfold laws_toEntryS_loop0_post at h
  simp only [DT.get, Option.some.injEq, Prod.mk.injEq] at h; exact ⟨h.1.symm, h.2.symm⟩

def laws_toEntryS_loops : Nat → Option LoopF := loopTab [(3, laws_toEntryS_loop0_F)]
set_option maxRecDepth 100000 in
theorem laws_toEntryS_l0 : LoopOK Tryd.prog ⟨gam [(70, laws_toEntry_c)], tab, 23, laws_toEntryS_loops⟩ (lp Tryd.f29 0) :=
  loopOK_some (F := laws_toEntryS_loop0_F) (by kernel_rfl) (loopF_ok (E := ⟨gam [(70, laws_toEntry_c)], tab, 23, laws_toEntryS_loops⟩) ⟨gam_cons laws_toEntry_ok (gam_nil), tab_ok, by kernel_rfl⟩ (fuel := 100000) (loopsOK_list (l := []) (by kernel_rfl) trivial) (L := laws_toEntryS_loop0_L) (fun p s => by unfold AgreeL; exact ⟨by kernel_rfl, by kernel_rfl⟩) (fun _ _ h => Ex.noConfusion h) laws_toEntryS_loop0_hext laws_toEntryS_loop0_hpost)
/-- loop.example/g01284/laws.toEntryS -/
def laws_toEntryS_tree (a0 : List Entry) : DT (List Entry) :=
  let x0 := ((List.length a0 : Nat) : Int);
  .need ((decide (0 ≤ x0) && decide (x0 ≤ x0) && decide (48 * x0 ≤ 281474976710656) && decide (x0 ≤ 9223372036854775807))) (
  let x1 := List.replicate (Int.toNat x0) (⟨[], 0, ⟨0, 0, 0, 0, 0, 0⟩⟩ : Entry);
  .need ((laws_toEntryS_loop0_ends a0 (0, x1))) (
  let x2 := laws_toEntryS_loop0 a0 (0, x1);
  .leaf x2))
def laws_toEntryS (a0 : List Entry) : List Entry := (laws_toEntryS_tree a0).val
def laws_toEntryS_need (a0 : List Entry) : Bool := (laws_toEntryS_tree a0).ok
def laws_toEntryS_mk (p : List Entry) : Ret := ⟨.own 0, [.typed 101 .entry p]⟩
def laws_toEntryS_c0 : Con := fun args => match args with
  | [.vslc 1 .entry a0] => some (.need (laws_toEntryS_need a0) (.leaf (laws_toEntryS_mk (laws_toEntryS a0))))
  | _ => none
set_option maxRecDepth 100000 in
theorem laws_toEntryS_ok0 : FunOK Tryd.prog 29 laws_toEntryS_c0.fn := by
  refine con_ok (Γ := gam [(70, laws_toEntry_c)]) (gam_cons laws_toEntry_ok (gam_nil)) tab_ok (by kernel_rfl) Tryd.func29 (by kernel_rfl) (by kernel_rfl) Tryd.ntmps29 Tryd.results29 (loops := laws_toEntryS_loops) (loopsOK_list (l := [lp Tryd.f29 0]) (by kernel_rfl) ⟨laws_toEntryS_l0, trivial⟩) 100000 fun args t h => ?_
  unfold laws_toEntryS_c0 at h
  split at h
  · rename_i a0
    cases h
    exact ⟨rfl, agree_need (mk := laws_toEntryS_mk) (t := laws_toEntryS_tree a0) (by unfold Agree; kernel_rfl)⟩
  · cases h
def laws_toEntryS_c : Con := fun args => laws_toEntryS_c0 (norms 0 [.slc .entry] args)
set_option maxRecDepth 100000 in
theorem laws_toEntryS_ok : FunOK Tryd.prog 29 laws_toEntryS_c.fn := con_norm [.slc .entry] laws_toEntryS_ok0

/-- a loop of spec_l07Name -/
def spec_l07Name_loop0_step (p : (List UInt8)) (s : Int) : Round (Int) ((Unit) ⊕ (Unit)) :=
  let x0 := ((List.length p : Nat) : Int);
  let x1 := decide (s < x0);
  .ask x1
  (
   .need ((decide (0 ≤ s) && decide (s < ((List.length p : Nat) : Int)))) (
   let x2 := ((List.getD (p : List UInt8) (Int.toNat s) 0).toNat : Int);
   let x3 := decide (x2 < 97);
   .ask x3
   (
    .leaf (.inr (.inl ()), []))
   (
    .need ((decide (0 ≤ s) && decide (s < ((List.length p : Nat) : Int)))) (
    let x4 := ((List.getD (p : List UInt8) (Int.toNat s) 0).toNat : Int);
    let x5 := decide (x4 > 122);
    .ask x5
    (
     .leaf (.inr (.inl ()), []))
    (
     let x6 := IntKind.wrap .i64 (s + 1);
     .leaf (.inl x6, []))))))
  (
   .leaf (.inr (.inr ()), []))
def spec_l07Name_loop0_L (p : (List UInt8)) : LoopS (Int) ((Unit) ⊕ (Unit)) := { tl := fun s => [.str p, .junk, .junk, .int .i64 s], hl := fun s => [], ex := fun r => match r with | .inl r => .ret | .inr r => .exit 0, otl := fun r => match r with | .inl r => [.junk, .junk, .bool false] | .inr r => [.str p], ohl := fun r => match r with | .inl r => [] | .inr r => [] }
def spec_l07Name_loop0_ext : St → Option (((List UInt8)) × (Int) × List Nat) := fun S => match (S.tm 0).unK, (S.tm 3).unK with
  | .str q0, .int .i64 q1 => some (q0, q1, [])
  | _, _ => none
def spec_l07Name_loop0_post (p : (List UInt8)) (r : (Unit) ⊕ (Unit)) : DT (Ex × St) := .ask (isL r) (.leaf (.ret, LSt [.junk, .junk, .bool false] [])) (.leaf (.exit 0, LSt [.str p] []))
def spec_l07Name_loop0 (p : (List UInt8)) (s : Int) : (Unit) ⊕ (Unit) := loopVal (spec_l07Name_loop0_step p) s
def spec_l07Name_loop0_ends (p : (List UInt8)) (s : Int) : Bool := loopEnds (spec_l07Name_loop0_step p) s
def spec_l07Name_loop0_F : LoopF := loopF spec_l07Name_loop0_step spec_l07Name_loop0_ext spec_l07Name_loop0_post
theorem spec_l07Name_loop0_hext : ∀ S p s fl, spec_l07Name_loop0_ext S = some (p, s, fl) → Norm S fl ((spec_l07Name_loop0_L p).tl s) ((spec_l07Name_loop0_L p).hl s) (spec_l07Name_loop0_L p).gl := by
  intro S p s fl h
  unfold spec_l07Name_loop0_ext at h
  (repeat' split at h) <;> first
    | (cases h; constructor <;> simp_all [spec_l07Name_loop0_L, keepT, keepH, rens, renH, PV.ren, Blk.ren, fOf, lget, nodup, natIn, lenEq, gtm, PV.unK])
    | cases h
theorem spec_l07Name_loop0_hpost : ∀ p r e S', (spec_l07Name_loop0_post p r).get = some (e, S') → e = (spec_l07Name_loop0_L p).ex r ∧ S' = LSt ((spec_l07Name_loop0_L p).otl r) ((spec_l07Name_loop0_L p).ohl r) ((spec_l07Name_loop0_L p).ogl r) := by
  intro p r e S' h
  unfold spec_l07Name_loop0_post at h
  cases r <;> (simp only [isL, DT.get, Option.some.injEq, Prod.mk.injEq] at h; exact ⟨h.1.symm, h.2.symm⟩)

def spec_l07Name_loops : Nat → Option LoopF := loopTab [(2, spec_l07Name_loop0_F)]
set_option maxRecDepth 100000 in
theorem spec_l07Name_l0 : LoopOK Tryd.prog ⟨gam [], tab, 28, spec_l07Name_loops⟩ (lp Tryd.f135 0) :=
  loopOK_some (F := spec_l07Name_loop0_F) (by kernel_rfl) (loopF_ok (E := ⟨gam [], tab, 28, spec_l07Name_loops⟩) ⟨gam_nil, tab_ok, by kernel_rfl⟩ (fuel := 100000) (loopsOK_list (l := []) (by kernel_rfl) trivial) (L := spec_l07Name_loop0_L) (fun p s => by unfold AgreeL; exact ⟨by kernel_rfl, by kernel_rfl⟩) (fun _ r h => by cases r <;> exact Ex.noConfusion h) spec_l07Name_loop0_hext spec_l07Name_loop0_hpost)
/-- loop.example/g01284/spec.l07Name -/
def spec_l07Name_tree (a0 : (List UInt8)) : DT (Bool) :=
  .need ((spec_l07Name_loop0_ends a0 0)) (
  let x0 := spec_l07Name_loop0 a0 0;
  .ask ((isL x0))
  (
   .leaf false)
  (
   let x1 := ((List.length a0 : Nat) : Int);
   let x2 := decide (x1 ≥ 1);
   .ask x2
   (
    let x3 := ((List.length a0 : Nat) : Int);
    let x4 := decide (x3 ≤ 8);
    .leaf x4)
   (
    .leaf false)))
def spec_l07Name (a0 : (List UInt8)) : Bool := (spec_l07Name_tree a0).val
def spec_l07Name_need (a0 : (List UInt8)) : Bool := (spec_l07Name_tree a0).ok
def spec_l07Name_mk (p : Bool) : Ret := ⟨.bool p, []⟩
def spec_l07Name_c : Con := fun args => match args with
  | [.str a0] => some (.need (spec_l07Name_need a0) (.leaf (spec_l07Name_mk (spec_l07Name a0))))
  | _ => none
set_option maxRecDepth 100000 in
theorem spec_l07Name_ok : FunOK Tryd.prog 135 spec_l07Name_c.fn := by
  refine con_ok (Γ := gam []) (gam_nil) tab_ok (by kernel_rfl) Tryd.func135 (by kernel_rfl) (by kernel_rfl) Tryd.ntmps135 Tryd.results135 (loops := spec_l07Name_loops) (loopsOK_list (l := [lp Tryd.f135 0]) (by kernel_rfl) ⟨spec_l07Name_l0, trivial⟩) 100000 fun args t h => ?_
  unfold spec_l07Name_c at h
  split at h
  · rename_i a0
    cases h
    exact ⟨rfl, agree_need (mk := spec_l07Name_mk) (t := spec_l07Name_tree a0) (by unfold Agree; kernel_rfl)⟩
  · cases h

/-- loop.example/g01284/spec.l07Entry -/
def spec_l07Entry_tree (a0 : Entry) : DT (Bool) :=
  .need ((spec_l07Name_need a0.Name)) (
  let x0 := spec_l07Name a0.Name;
  .ask x0
  (
   let x1 := spec_l02Above a0.Mass;
   .ask x1
   (
    let x2 := spec_l03Is (⟨a0.Orb.Long, a0.Orb.Round, a0.Orb.Tilt, a0.Orb.Node, a0.Orb.Peri, a0.Orb.Phase⟩ : Orbit);
    .leaf x2)
   (
    .leaf false))
  (
   .leaf false))
def spec_l07Entry (a0 : Entry) : Bool := (spec_l07Entry_tree a0).val
def spec_l07Entry_need (a0 : Entry) : Bool := (spec_l07Entry_tree a0).ok
def spec_l07Entry_mk (p : Bool) : Ret := ⟨.bool p, []⟩
def spec_l07Entry_c0 : Con := fun args => match args with
  | [.vcell [.str a0_0, .flt .f32 a0_1, .flt .f32 a0_2, .flt .f32 a0_3, .flt .f32 a0_4, .flt .f32 a0_5, .flt .f32 a0_6, .flt .f32 a0_7] 0] => some (.need (spec_l07Entry_need (⟨a0_0, a0_1, ⟨a0_2, a0_3, a0_4, a0_5, a0_6, a0_7⟩⟩ : Entry)) (.leaf (spec_l07Entry_mk (spec_l07Entry (⟨a0_0, a0_1, ⟨a0_2, a0_3, a0_4, a0_5, a0_6, a0_7⟩⟩ : Entry)))))
  | _ => none
set_option maxRecDepth 100000 in
theorem spec_l07Entry_ok0 : FunOK Tryd.prog 109 spec_l07Entry_c0.fn := by
  refine con_ok (Γ := gam [(135, spec_l07Name_c), (93, spec_l02Above_c), (56, spec_l03Is_c)]) (gam_cons spec_l07Name_ok (gam_cons spec_l02Above_ok (gam_cons spec_l03Is_ok (gam_nil)))) tab_ok (by kernel_rfl) Tryd.func109 (by kernel_rfl) (by kernel_rfl) Tryd.ntmps109 Tryd.results109 (loopsOK_none rfl _) 100000 fun args t h => ?_
  unfold spec_l07Entry_c0 at h
  split at h
  · rename_i a0_0 a0_1 a0_2 a0_3 a0_4 a0_5 a0_6 a0_7
    cases h
    exact ⟨rfl, agree_need (mk := spec_l07Entry_mk) (t := spec_l07Entry_tree (⟨a0_0, a0_1, ⟨a0_2, a0_3, a0_4, a0_5, a0_6, a0_7⟩⟩ : Entry)) (by unfold Agree; kernel_rfl)⟩
  · cases h
def spec_l07Entry_c : Con := fun args => spec_l07Entry_c0 (norms 0 [.ptr 8] args)
set_option maxRecDepth 100000 in
theorem spec_l07Entry_ok : FunOK Tryd.prog 109 spec_l07Entry_c.fn := con_norm [.ptr 8] spec_l07Entry_ok0

/-- a loop of spec_l07List -/
def spec_l07List_loop0_step (p : List Entry) (s : Int) : Round (Int) ((Unit) ⊕ (Unit)) :=
  let x0 := ((List.length p : Nat) : Int);
  let x1 := decide (s < x0);
  .ask x1
  (
   let x2 := ((List.length p : Nat) : Int);
   let x3 := decide (x2 ≤ 16);
   .ask x3
   (
    .need ((decide (0 ≤ s) && decide (s < ((List.length p : Nat) : Int)))) (
    let x4 := List.getD p (Int.toNat s) default;
    .need ((spec_l07Entry_need (⟨x4.Name, x4.Mass, ⟨x4.Orb.Long, x4.Orb.Round, x4.Orb.Tilt, x4.Orb.Node, x4.Orb.Peri, x4.Orb.Phase⟩⟩ : Entry))) (
    let x5 := spec_l07Entry (⟨x4.Name, x4.Mass, ⟨x4.Orb.Long, x4.Orb.Round, x4.Orb.Tilt, x4.Orb.Node, x4.Orb.Peri, x4.Orb.Phase⟩⟩ : Entry);
    .ask (!x5)
    (
     .leaf (.inr (.inl ()), []))
    (
     let x6 := decide (s > 0);
     .ask x6
     (
      let x7 := IntKind.wrap .i64 (s - 1);
      .need ((decide (0 ≤ x7) && decide (x7 < ((List.length p : Nat) : Int)))) (
      let x8 := List.getD p (Int.toNat x7) default;
      .need ((decide (0 ≤ s) && decide (s < ((List.length p : Nat) : Int)))) (
      let x9 := List.getD p (Int.toNat s) default;
      let x10 := (!Op.bytesLess x8.Name x9.Name);
      .ask x10
      (
       .leaf (.inr (.inl ()), []))
      (
       let x11 := IntKind.wrap .i64 (s + 1);
       .leaf (.inl x11, [])))))
     (
      let x7 := IntKind.wrap .i64 (s + 1);
      .leaf (.inl x7, []))))))
   (
    .leaf (.inr (.inr ()), [])))
  (
   .leaf (.inr (.inr ()), []))
def spec_l07List_loop0_L (p : List Entry) : LoopS (Int) ((Unit) ⊕ (Unit)) := { tl := fun s => [.vslc 1 .entry p, .junk, .junk, .int .i64 s], hl := fun s => [], ex := fun r => match r with | .inl r => .ret | .inr r => .exit 0, otl := fun r => match r with | .inl r => [.junk, .junk, .bool false] | .inr r => [.vslc 1 .entry p], ohl := fun r => match r with | .inl r => [] | .inr r => [] }
def spec_l07List_loop0_ext : St → Option ((List Entry) × (Int) × List Nat) := fun S => match (S.tm 0).unK, (S.tm 3).unK with
  | .vslc 1 .entry q0, .int .i64 q1 => some (q0, q1, [])
  | _, _ => none
def spec_l07List_loop0_post (p : List Entry) (r : (Unit) ⊕ (Unit)) : DT (Ex × St) := .ask (isL r) (.leaf (.ret, LSt [.junk, .junk, .bool false] [])) (.leaf (.exit 0, LSt [.vslc 1 .entry p] []))
def spec_l07List_loop0 (p : List Entry) (s : Int) : (Unit) ⊕ (Unit) := loopVal (spec_l07List_loop0_step p) s
def spec_l07List_loop0_ends (p : List Entry) (s : Int) : Bool := loopEnds (spec_l07List_loop0_step p) s
def spec_l07List_loop0_F : LoopF := loopF spec_l07List_loop0_step spec_l07List_loop0_ext spec_l07List_loop0_post
theorem spec_l07List_loop0_hext : ∀ S p s fl, spec_l07List_loop0_ext S = some (p, s, fl) → Norm S fl ((spec_l07List_loop0_L p).tl s) ((spec_l07List_loop0_L p).hl s) (spec_l07List_loop0_L p).gl := by
  intro S p s fl h
  unfold spec_l07List_loop0_ext at h
  (repeat' split at h) <;> first
    | (cases h; constructor <;> simp_all [spec_l07List_loop0_L, keepT, keepH, rens, renH, PV.ren, Blk.ren, fOf, lget, nodup, natIn, lenEq, gtm, PV.unK])
    | cases h
theorem spec_l07List_loop0_hpost : ∀ p r e S', (spec_l07List_loop0_post p r).get = some (e, S') → e = (spec_l07List_loop0_L p).ex r ∧ S' = LSt ((spec_l07List_loop0_L p).otl r) ((spec_l07List_loop0_L p).ohl r) ((spec_l07List_loop0_L p).ogl r) := by
  intro p r e S' h
  unfold spec_l07List_loop0_post at h
  cases r <;> (simp only [isL, DT.get, Option.some.injEq, Prod.mk.injEq] at h; exact ⟨h.1.symm, h.2.symm⟩)

def spec_l07List_loops : Nat → Option LoopF := loopTab [(2, spec_l07List_loop0_F)]
set_option maxRecDepth 100000 in
theorem spec_l07List_l0 : LoopOK Tryd.prog ⟨gam [(109, spec_l07Entry_c)], tab, 41, spec_l07List_loops⟩ (lp Tryd.f68 0) :=
  loopOK_some (F := spec_l07List_loop0_F) (by kernel_rfl) (loopF_ok (E := ⟨gam [(109, spec_l07Entry_c)], tab, 41, spec_l07List_loops⟩) ⟨gam_cons spec_l07Entry_ok (gam_nil), tab_ok, by kernel_rfl⟩ (fuel := 100000) (loopsOK_list (l := []) (by kernel_rfl) trivial) (L := spec_l07List_loop0_L) (fun p s => by unfold AgreeL; exact ⟨by kernel_rfl, by kernel_rfl⟩) (fun _ r h => by cases r <;> exact Ex.noConfusion h) spec_l07List_loop0_hext spec_l07List_loop0_hpost)
/-- loop.example/g01284/spec.l07List -/
def spec_l07List_tree (a0 : List Entry) : DT (Bool) :=
  .need ((spec_l07List_loop0_ends a0 0)) (
  let x0 := spec_l07List_loop0 a0 0;
  .ask ((isL x0))
  (
   .leaf false)
  (
   let x1 := ((List.length a0 : Nat) : Int);
   let x2 := decide (x1 ≤ 16);
   .leaf x2))
def spec_l07List (a0 : List Entry) : Bool := (spec_l07List_tree a0).val
def spec_l07List_need (a0 : List Entry) : Bool := (spec_l07List_tree a0).ok
def spec_l07List_mk (p : Bool) : Ret := ⟨.bool p, []⟩
def spec_l07List_c0 : Con := fun args => match args with
  | [.vslc 1 .entry a0] => some (.need (spec_l07List_need a0) (.leaf (spec_l07List_mk (spec_l07List a0))))
  | _ => none
set_option maxRecDepth 100000 in
theorem spec_l07List_ok0 : FunOK Tryd.prog 68 spec_l07List_c0.fn := by
  refine con_ok (Γ := gam [(109, spec_l07Entry_c)]) (gam_cons spec_l07Entry_ok (gam_nil)) tab_ok (by kernel_rfl) Tryd.func68 (by kernel_rfl) (by kernel_rfl) Tryd.ntmps68 Tryd.results68 (loops := spec_l07List_loops) (loopsOK_list (l := [lp Tryd.f68 0]) (by kernel_rfl) ⟨spec_l07List_l0, trivial⟩) 100000 fun args t h => ?_
  unfold spec_l07List_c0 at h
  split at h
  · rename_i a0
    cases h
    exact ⟨rfl, agree_need (mk := spec_l07List_mk) (t := spec_l07List_tree a0) (by unfold Agree; kernel_rfl)⟩
  · cases h
def spec_l07List_c : Con := fun args => spec_l07List_c0 (norms 0 [.slc .entry] args)
set_option maxRecDepth 100000 in
theorem spec_l07List_ok : FunOK Tryd.prog 68 spec_l07List_c.fn := con_norm [.slc .entry] spec_l07List_ok0

/-- a loop of spec_l08Entries -/
def spec_l08Entries_loop0_step (p : List Entry) (s : (List UInt8) × Int) : Round ((List UInt8) × Int) ((List UInt8)) :=
  let x0 := ((List.length p : Nat) : Int);
  let x1 := decide (s.2 < x0);
  .ask x1
  (
   let x2 := decide (s.2 > 0);
   .ask x2
   (
    .need ((decide (List.length s.1 + List.length [47] ≤ 9223372036854775807))) (
    let x3 := s.1 ++ [47];
    .need ((decide (0 ≤ s.2) && decide (s.2 < ((List.length p : Nat) : Int)))) (
    let x4 := List.getD p (Int.toNat s.2) default;
    .need ((decide (List.length x4.Name + List.length [58] ≤ 9223372036854775807))) (
    let x5 := x4.Name ++ [58];
    let x6 := spec_l08Six (⟨x4.Orb.Long, x4.Orb.Round, x4.Orb.Tilt, x4.Orb.Node, x4.Orb.Peri, x4.Orb.Phase⟩ : Orbit);
    .need ((decide ((List.length [x4.Mass] + List.length x6) * 4 ≤ 140737488355328) && decide (List.length [x4.Mass] + List.length x6 ≤ 9223372036854775807))) (
    let x7 := [x4.Mass] ++ x6;
    .need ((spec_l01NText_need x7)) (
    let x8 := spec_l01NText x7;
    .need ((decide (List.length x5 + List.length x8 ≤ 9223372036854775807))) (
    let x9 := x5 ++ x8;
    .need ((decide (List.length x3 + List.length x9 ≤ 9223372036854775807))) (
    let x10 := x3 ++ x9;
    let x11 := IntKind.wrap .i64 (s.2 + 1);
    .leaf (.inl (x10, x11), [])))))))))
   (
    .need ((decide (0 ≤ s.2) && decide (s.2 < ((List.length p : Nat) : Int)))) (
    let x3 := List.getD p (Int.toNat s.2) default;
    .need ((decide (List.length x3.Name + List.length [58] ≤ 9223372036854775807))) (
    let x4 := x3.Name ++ [58];
    let x5 := spec_l08Six (⟨x3.Orb.Long, x3.Orb.Round, x3.Orb.Tilt, x3.Orb.Node, x3.Orb.Peri, x3.Orb.Phase⟩ : Orbit);
    .need ((decide ((List.length [x3.Mass] + List.length x5) * 4 ≤ 140737488355328) && decide (List.length [x3.Mass] + List.length x5 ≤ 9223372036854775807))) (
    let x6 := [x3.Mass] ++ x5;
    .need ((spec_l01NText_need x6)) (
    let x7 := spec_l01NText x6;
    .need ((decide (List.length x4 + List.length x7 ≤ 9223372036854775807))) (
    let x8 := x4 ++ x7;
    .need ((decide (List.length s.1 + List.length x8 ≤ 9223372036854775807))) (
    let x9 := s.1 ++ x8;
    let x10 := IntKind.wrap .i64 (s.2 + 1);
    .leaf (.inl (x9, x10), [])))))))))
  (
   .leaf (.inr s.1, []))
def spec_l08Entries_loop0_L (p : List Entry) : LoopS ((List UInt8) × Int) ((List UInt8)) := { tl := fun s => [.vslc 1 .entry p, .junk, .junk, .str s.1, .int .i64 s.2], hl := fun s => [], ex := fun r => .exit 0, otl := fun r => [.junk, .junk, .junk, .str r], ohl := fun r => [] }
def spec_l08Entries_loop0_ext : St → Option ((List Entry) × ((List UInt8) × Int) × List Nat) := fun S => match (S.tm 0).unK, (S.tm 3).unK, (S.tm 4).unK with
  | .vslc 1 .entry q0, .str q1, .int .i64 q2 => some (q0, (q1, q2), [])
  | _, _, _ => none
def spec_l08Entries_loop0_post (p : List Entry) (r : (List UInt8)) : DT (Ex × St) := .leaf (.exit 0, LSt [.junk, .junk, .junk, .str r] [])
def spec_l08Entries_loop0 (p : List Entry) (s : (List UInt8) × Int) : (List UInt8) := loopVal (spec_l08Entries_loop0_step p) s
def spec_l08Entries_loop0_ends (p : List Entry) (s : (List UInt8) × Int) : Bool := loopEnds (spec_l08Entries_loop0_step p) s
def spec_l08Entries_loop0_F : LoopF := loopF spec_l08Entries_loop0_step spec_l08Entries_loop0_ext spec_l08Entries_loop0_post
theorem spec_l08Entries_loop0_hext : ∀ S p s fl, spec_l08Entries_loop0_ext S = some (p, s, fl) → Norm S fl ((spec_l08Entries_loop0_L p).tl s) ((spec_l08Entries_loop0_L p).hl s) (spec_l08Entries_loop0_L p).gl := by
  intro S p s fl h
  unfold spec_l08Entries_loop0_ext at h
  (repeat' split at h) <;> first
    | (cases h; constructor <;> simp_all [spec_l08Entries_loop0_L, keepT, keepH, rens, renH, PV.ren, Blk.ren, fOf, lget, nodup, natIn, lenEq, gtm, PV.unK])
    | cases h
theorem spec_l08Entries_loop0_hpost : ∀ p r e S', (spec_l08Entries_loop0_post p r).get = some (e, S') → e = (spec_l08Entries_loop0_L p).ex r ∧ S' = LSt ((spec_l08Entries_loop0_L p).otl r) ((spec_l08Entries_loop0_L p).ohl r) ((spec_l08Entries_loop0_L p).ogl r) := by
  intro p r e S' h
  unfold spec_l08Entries_loop0_post at h
  simp only [DT.get, Option.some.injEq, Prod.mk.injEq] at h; exact ⟨h.1.symm, h.2.symm⟩

def spec_l08Entries_loops : Nat → Option LoopF := loopTab [(5, spec_l08Entries_loop0_F)]
set_option maxRecDepth 100000 in
theorem spec_l08Entries_l0 : LoopOK Tryd.prog ⟨gam [(58, spec_l08Six_c), (57, spec_l01NText_c)], tab, 42, spec_l08Entries_loops⟩ (lp Tryd.f69 0) :=
  loopOK_some (F := spec_l08Entries_loop0_F) (by kernel_rfl) (loopF_ok (E := ⟨gam [(58, spec_l08Six_c), (57, spec_l01NText_c)], tab, 42, spec_l08Entries_loops⟩) ⟨gam_cons spec_l08Six_ok (gam_cons spec_l01NText_ok (gam_nil)), tab_ok, by kernel_rfl⟩ (fuel := 100000) (loopsOK_list (l := []) (by kernel_rfl) trivial) (L := spec_l08Entries_loop0_L) (fun p s => by unfold AgreeL; exact ⟨by kernel_rfl, by kernel_rfl⟩) (fun _ _ h => Ex.noConfusion h) spec_l08Entries_loop0_hext spec_l08Entries_loop0_hpost)
/-- loop.example/g01284/spec.l08Entries -/
def spec_l08Entries_tree (a0 : List Entry) : DT ((List UInt8)) :=
  let x0 := ((List.length a0 : Nat) : Int);
  let x1 := (x0 == 0);
  .ask x1
  (
   .leaf ([110, 111, 110, 101]))
  (
   .need ((spec_l08Entries_loop0_ends a0 ([], 0))) (
   let x2 := spec_l08Entries_loop0 a0 ([], 0);
   .leaf x2))
def spec_l08Entries (a0 : List Entry) : (List UInt8) := (spec_l08Entries_tree a0).val
def spec_l08Entries_need (a0 : List Entry) : Bool := (spec_l08Entries_tree a0).ok
def spec_l08Entries_mk (p : (List UInt8)) : Ret := ⟨.str p, []⟩
def spec_l08Entries_c0 : Con := fun args => match args with
  | [.vslc 1 .entry a0] => some (.need (spec_l08Entries_need a0) (.leaf (spec_l08Entries_mk (spec_l08Entries a0))))
  | _ => none
set_option maxRecDepth 100000 in
theorem spec_l08Entries_ok0 : FunOK Tryd.prog 69 spec_l08Entries_c0.fn := by
  refine con_ok (Γ := gam [(58, spec_l08Six_c), (57, spec_l01NText_c)]) (gam_cons spec_l08Six_ok (gam_cons spec_l01NText_ok (gam_nil))) tab_ok (by kernel_rfl) Tryd.func69 (by kernel_rfl) (by kernel_rfl) Tryd.ntmps69 Tryd.results69 (loops := spec_l08Entries_loops) (loopsOK_list (l := [lp Tryd.f69 0]) (by kernel_rfl) ⟨spec_l08Entries_l0, trivial⟩) 100000 fun args t h => ?_
  unfold spec_l08Entries_c0 at h
  split at h
  · rename_i a0
    cases h
    exact ⟨rfl, agree_need (mk := spec_l08Entries_mk) (t := spec_l08Entries_tree a0) (by unfold Agree; kernel_rfl)⟩
  · cases h
def spec_l08Entries_c : Con := fun args => spec_l08Entries_c0 (norms 0 [.slc .entry] args)
set_option maxRecDepth 100000 in
theorem spec_l08Entries_ok : FunOK Tryd.prog 69 spec_l08Entries_c.fn := con_norm [.slc .entry] spec_l08Entries_ok0

/-- loop.example/g01284/spec.EntriesText -/
def spec_EntriesText_tree (a0 : List Entry) : DT ((List UInt8) × Bool) :=
  .need ((spec_l07List_need a0)) (
  let x0 := spec_l07List a0;
  .ask (!x0)
  (
   .leaf ([], false))
  (
   .need ((spec_l08Entries_need a0)) (
   let x1 := spec_l08Entries a0;
   .leaf (x1, true))))
def spec_EntriesText (a0 : List Entry) : (List UInt8) × Bool := (spec_EntriesText_tree a0).val
def spec_EntriesText_need (a0 : List Entry) : Bool := (spec_EntriesText_tree a0).ok
def spec_EntriesText_mk (p : (List UInt8) × Bool) : Ret := ⟨.tup [.str p.1, .bool p.2], []⟩
def spec_EntriesText_c0 : Con := fun args => match args with
  | [.vslc 1 .entry a0] => some (.need (spec_EntriesText_need a0) (.leaf (spec_EntriesText_mk (spec_EntriesText a0))))
  | _ => none
set_option maxRecDepth 100000 in
theorem spec_EntriesText_ok0 : FunOK Tryd.prog 28 spec_EntriesText_c0.fn := by
  refine con_ok (Γ := gam [(68, spec_l07List_c), (69, spec_l08Entries_c)]) (gam_cons spec_l07List_ok (gam_cons spec_l08Entries_ok (gam_nil))) tab_ok (by kernel_rfl) Tryd.func28 (by kernel_rfl) (by kernel_rfl) Tryd.ntmps28 Tryd.results28 (loopsOK_none rfl _) 100000 fun args t h => ?_
  unfold spec_EntriesText_c0 at h
  split at h
  · rename_i a0
    cases h
    exact ⟨rfl, agree_need (mk := spec_EntriesText_mk) (t := spec_EntriesText_tree a0) (by unfold Agree; kernel_rfl)⟩
  · cases h
def spec_EntriesText_c : Con := fun args => spec_EntriesText_c0 (norms 0 [.slc .entry] args)
set_option maxRecDepth 100000 in
theorem spec_EntriesText_ok : FunOK Tryd.prog 28 spec_EntriesText_c.fn := con_norm [.slc .entry] spec_EntriesText_ok0

/-- a loop of impl_IsName -/
def impl_IsName_loop0_step (p : (List UInt8) × Int) (s : Int) : Round (Int) ((Unit) ⊕ (Unit)) :=
  let x0 := decide (s < p.2);
  .ask x0
  (
   .need ((decide (0 ≤ s) && decide (s < ((List.length p.1 : Nat) : Int)))) (
   let x1 := ((List.getD (p.1 : List UInt8) (Int.toNat s) 0).toNat : Int);
   let x2 := decide (x1 < 97);
   .ask x2
   (
    .leaf (.inr (.inl ()), []))
   (
    .need ((decide (0 ≤ s) && decide (s < ((List.length p.1 : Nat) : Int)))) (
    let x3 := ((List.getD (p.1 : List UInt8) (Int.toNat s) 0).toNat : Int);
    let x4 := decide (x3 > 122);
    .ask x4
    (
     .leaf (.inr (.inl ()), []))
    (
     let x5 := IntKind.wrap .i64 (s + 1);
     .leaf (.inl x5, []))))))
  (
   .leaf (.inr (.inr ()), []))
def impl_IsName_loop0_L (p : (List UInt8) × Int) : LoopS (Int) ((Unit) ⊕ (Unit)) := { tl := fun s => [.str p.1, .junk, .junk, .junk, .junk, .int .i64 p.2, .int .i64 s], hl := fun s => [], ex := fun r => match r with | .inl r => .ret | .inr r => .exit 0, otl := fun r => match r with | .inl r => [.junk, .junk, .bool false] | .inr r => [.str p.1], ohl := fun r => match r with | .inl r => [] | .inr r => [] }
def impl_IsName_loop0_ext : St → Option (((List UInt8) × Int) × (Int) × List Nat) := fun S => match (S.tm 0).unK, (S.tm 5).unK, (S.tm 6).unK with
  | .str q0, .int .i64 q1, .int .i64 q2 => some ((q0, q1), q2, [])
  | _, _, _ => none
def impl_IsName_loop0_post (p : (List UInt8) × Int) (r : (Unit) ⊕ (Unit)) : DT (Ex × St) := .ask (isL r) (.leaf (.ret, LSt [.junk, .junk, .bool false] [])) (.leaf (.exit 0, LSt [.str p.1] []))
def impl_IsName_loop0 (p : (List UInt8) × Int) (s : Int) : (Unit) ⊕ (Unit) := loopVal (impl_IsName_loop0_step p) s
def impl_IsName_loop0_ends (p : (List UInt8) × Int) (s : Int) : Bool := loopEnds (impl_IsName_loop0_step p) s
def impl_IsName_loop0_F : LoopF := loopF impl_IsName_loop0_step impl_IsName_loop0_ext impl_IsName_loop0_post
theorem impl_IsName_loop0_hext : ∀ S p s fl, impl_IsName_loop0_ext S = some (p, s, fl) → Norm S fl ((impl_IsName_loop0_L p).tl s) ((impl_IsName_loop0_L p).hl s) (impl_IsName_loop0_L p).gl := by
  intro S p s fl h
  unfold impl_IsName_loop0_ext at h
  (repeat' split at h) <;> first
    | (cases h; constructor <;> simp_all [impl_IsName_loop0_L, keepT, keepH, rens, renH, PV.ren, Blk.ren, fOf, lget, nodup, natIn, lenEq, gtm, PV.unK])
    | cases h
theorem impl_IsName_loop0_hpost : ∀ p r e S', (impl_IsName_loop0_post p r).get = some (e, S') → e = (impl_IsName_loop0_L p).ex r ∧ S' = LSt ((impl_IsName_loop0_L p).otl r) ((impl_IsName_loop0_L p).ohl r) ((impl_IsName_loop0_L p).ogl r) := by
  intro p r e S' h
  unfold impl_IsName_loop0_post at h
  cases r <;> (simp only [isL, DT.get, Option.some.injEq, Prod.mk.injEq] at h; exact ⟨h.1.symm, h.2.symm⟩)

def impl_IsName_loops : Nat → Option LoopF := loopTab [(2, impl_IsName_loop0_F)]
set_option maxRecDepth 100000 in
theorem impl_IsName_l0 : LoopOK Tryd.prog ⟨gam [], tab, 28, impl_IsName_loops⟩ (lp Tryd.f136 0) :=
  loopOK_some (F := impl_IsName_loop0_F) (by kernel_rfl) (loopF_ok (E := ⟨gam [], tab, 28, impl_IsName_loops⟩) ⟨gam_nil, tab_ok, by kernel_rfl⟩ (fuel := 100000) (loopsOK_list (l := []) (by kernel_rfl) trivial) (L := impl_IsName_loop0_L) (fun p s => by unfold AgreeL; exact ⟨by kernel_rfl, by kernel_rfl⟩) (fun _ r h => by cases r <;> exact Ex.noConfusion h) impl_IsName_loop0_hext impl_IsName_loop0_hpost)
/-- loop.example/g01284/impl.IsName -/
def impl_IsName_tree (a0 : (List UInt8)) : DT (Bool) :=
  let x0 := ((List.length a0 : Nat) : Int);
  .need ((impl_IsName_loop0_ends (a0, x0) 0)) (
  let x1 := impl_IsName_loop0 (a0, x0) 0;
  .ask ((isL x1))
  (
   .leaf false)
  (
   let x2 := ((List.length a0 : Nat) : Int);
   let x3 := decide (x2 ≥ 1);
   .ask x3
   (
    let x4 := ((List.length a0 : Nat) : Int);
    let x5 := decide (x4 ≤ 8);
    .leaf x5)
   (
    .leaf false)))
def impl_IsName (a0 : (List UInt8)) : Bool := (impl_IsName_tree a0).val
def impl_IsName_need (a0 : (List UInt8)) : Bool := (impl_IsName_tree a0).ok
def impl_IsName_mk (p : Bool) : Ret := ⟨.bool p, []⟩
def impl_IsName_c : Con := fun args => match args with
  | [.str a0] => some (.need (impl_IsName_need a0) (.leaf (impl_IsName_mk (impl_IsName a0))))
  | _ => none
set_option maxRecDepth 100000 in
theorem impl_IsName_ok : FunOK Tryd.prog 136 impl_IsName_c.fn := by
  refine con_ok (Γ := gam []) (gam_nil) tab_ok (by kernel_rfl) Tryd.func136 (by kernel_rfl) (by kernel_rfl) Tryd.ntmps136 Tryd.results136 (loops := impl_IsName_loops) (loopsOK_list (l := [lp Tryd.f136 0]) (by kernel_rfl) ⟨impl_IsName_l0, trivial⟩) 100000 fun args t h => ?_
  unfold impl_IsName_c at h
  split at h
  · rename_i a0
    cases h
    exact ⟨rfl, agree_need (mk := impl_IsName_mk) (t := impl_IsName_tree a0) (by unfold Agree; kernel_rfl)⟩
  · cases h

/-- loop.example/g01284/impl.ValidEntry -/
def impl_ValidEntry_tree (a0 : Entry) : DT (Bool) :=
  .need ((impl_IsName_need a0.Name)) (
  let x0 := impl_IsName a0.Name;
  .ask x0
  (
   .need ((impl_aLength_need a0.Mass)) (
   let x1 := impl_aLength a0.Mass;
   .ask x1
   (
    .need ((impl_ValidOrbit_need (⟨a0.Orb.Long, a0.Orb.Round, a0.Orb.Tilt, a0.Orb.Node, a0.Orb.Peri, a0.Orb.Phase⟩ : Orbit))) (
    let x2 := impl_ValidOrbit (⟨a0.Orb.Long, a0.Orb.Round, a0.Orb.Tilt, a0.Orb.Node, a0.Orb.Peri, a0.Orb.Phase⟩ : Orbit);
    .leaf x2))
   (
    .leaf false)))
  (
   .leaf false))
def impl_ValidEntry (a0 : Entry) : Bool := (impl_ValidEntry_tree a0).val
def impl_ValidEntry_need (a0 : Entry) : Bool := (impl_ValidEntry_tree a0).ok
def impl_ValidEntry_mk (p : Bool) : Ret := ⟨.bool p, []⟩
def impl_ValidEntry_c : Con := fun args => match args with
  | [.agg [.str a0_0, .flt .f32 a0_1, .flt .f32 a0_2, .flt .f32 a0_3, .flt .f32 a0_4, .flt .f32 a0_5, .flt .f32 a0_6, .flt .f32 a0_7]] => some (.need (impl_ValidEntry_need (⟨a0_0, a0_1, ⟨a0_2, a0_3, a0_4, a0_5, a0_6, a0_7⟩⟩ : Entry)) (.leaf (impl_ValidEntry_mk (impl_ValidEntry (⟨a0_0, a0_1, ⟨a0_2, a0_3, a0_4, a0_5, a0_6, a0_7⟩⟩ : Entry)))))
  | _ => none
set_option maxRecDepth 100000 in
theorem impl_ValidEntry_ok : FunOK Tryd.prog 110 impl_ValidEntry_c.fn := by
  refine con_ok (Γ := gam [(136, impl_IsName_c), (126, impl_aLength_c), (59, impl_ValidOrbit_c)]) (gam_cons impl_IsName_ok (gam_cons impl_aLength_ok (gam_cons impl_ValidOrbit_ok (gam_nil)))) tab_ok (by kernel_rfl) Tryd.func110 (by kernel_rfl) (by kernel_rfl) Tryd.ntmps110 Tryd.results110 (loopsOK_none rfl _) 100000 fun args t h => ?_
  unfold impl_ValidEntry_c at h
  split at h
  · rename_i a0_0 a0_1 a0_2 a0_3 a0_4 a0_5 a0_6 a0_7
    cases h
    exact ⟨rfl, agree_need (mk := impl_ValidEntry_mk) (t := impl_ValidEntry_tree (⟨a0_0, a0_1, ⟨a0_2, a0_3, a0_4, a0_5, a0_6, a0_7⟩⟩ : Entry)) (by unfold Agree; kernel_rfl)⟩
  · cases h

/-- a loop of impl_AreEntries -/
def impl_AreEntries_loop0_step (p : List Entry × List Entry × Int) (s : Int) : Round (Int) ((Unit) ⊕ (Unit)) :=
  let x0 := decide (s < p.2.2);
  .ask x0
  (
   .need ((decide (0 ≤ s) && decide (s < ((List.length p.2.1 : Nat) : Int)))) (
   let x1 := List.getD p.2.1 (Int.toNat s) default;
   .need ((impl_ValidEntry_need (⟨x1.Name, x1.Mass, ⟨x1.Orb.Long, x1.Orb.Round, x1.Orb.Tilt, x1.Orb.Node, x1.Orb.Peri, x1.Orb.Phase⟩⟩ : Entry))) (
   let x2 := impl_ValidEntry (⟨x1.Name, x1.Mass, ⟨x1.Orb.Long, x1.Orb.Round, x1.Orb.Tilt, x1.Orb.Node, x1.Orb.Peri, x1.Orb.Phase⟩⟩ : Entry);
   .ask (!x2)
   (
    .leaf (.inr (.inl ()), []))
   (
    let x3 := decide (s > 0);
    .ask x3
    (
     let x4 := IntKind.wrap .i64 (s - 1);
     .need ((decide (0 ≤ x4) && decide (x4 < ((List.length p.1 : Nat) : Int)))) (
     let x5 := List.getD p.1 (Int.toNat x4) default;
     let x6 := (!Op.bytesLess x5.Name x1.Name);
     .ask x6
     (
      .leaf (.inr (.inl ()), []))
     (
      let x7 := IntKind.wrap .i64 (s + 1);
      .leaf (.inl x7, []))))
    (
     let x4 := IntKind.wrap .i64 (s + 1);
     .leaf (.inl x4, []))))))
  (
   .leaf (.inr (.inr ()), []))
def impl_AreEntries_loop0_L (p : List Entry × List Entry × Int) : LoopS (Int) ((Unit) ⊕ (Unit)) := { tl := fun s => [.vslc 1 .entry p.1, .junk, .junk, .junk, .junk, .vslc 1 .entry p.2.1, .int .i64 p.2.2, .int .i64 s], hl := fun s => [], ex := fun r => match r with | .inl r => .ret | .inr r => .exit 0, otl := fun r => match r with | .inl r => [.junk, .junk, .bool false] | .inr r => [.vslc 1 .entry p.1], ohl := fun r => match r with | .inl r => [] | .inr r => [] }
def impl_AreEntries_loop0_ext : St → Option ((List Entry × List Entry × Int) × (Int) × List Nat) := fun S => match (S.tm 0).unK, (S.tm 5).unK, (S.tm 6).unK, (S.tm 7).unK with
  | .vslc 1 .entry q0, .vslc 1 .entry q1, .int .i64 q2, .int .i64 q3 => some ((q0, q1, q2), q3, [])
  | _, _, _, _ => none
def impl_AreEntries_loop0_post (p : List Entry × List Entry × Int) (r : (Unit) ⊕ (Unit)) : DT (Ex × St) := .ask (isL r) (.leaf (.ret, LSt [.junk, .junk, .bool false] [])) (.leaf (.exit 0, LSt [.vslc 1 .entry p.1] []))
def impl_AreEntries_loop0 (p : List Entry × List Entry × Int) (s : Int) : (Unit) ⊕ (Unit) := loopVal (impl_AreEntries_loop0_step p) s
def impl_AreEntries_loop0_ends (p : List Entry × List Entry × Int) (s : Int) : Bool := loopEnds (impl_AreEntries_loop0_step p) s
def impl_AreEntries_loop0_F : LoopF := loopF impl_AreEntries_loop0_step impl_AreEntries_loop0_ext impl_AreEntries_loop0_post
theorem impl_AreEntries_loop0_hext : ∀ S p s fl, impl_AreEntries_loop0_ext S = some (p, s, fl) → Norm S fl ((impl_AreEntries_loop0_L p).tl s) ((impl_AreEntries_loop0_L p).hl s) (impl_AreEntries_loop0_L p).gl := by
  intro S p s fl h
  unfold impl_AreEntries_loop0_ext at h
  (repeat' split at h) <;> first
    | (cases h; constructor <;> simp_all [impl_AreEntries_loop0_L, keepT, keepH, rens, renH, PV.ren, Blk.ren, fOf, lget, nodup, natIn, lenEq, gtm, PV.unK])
    | cases h
theorem impl_AreEntries_loop0_hpost : ∀ p r e S', (impl_AreEntries_loop0_post p r).get = some (e, S') → e = (impl_AreEntries_loop0_L p).ex r ∧ S' = LSt ((impl_AreEntries_loop0_L p).otl r) ((impl_AreEntries_loop0_L p).ohl r) ((impl_AreEntries_loop0_L p).ogl r) := by
  intro p r e S' h
  unfold impl_AreEntries_loop0_post at h
  cases r <;> (simp only [isL, DT.get, Option.some.injEq, Prod.mk.injEq] at h; exact ⟨h.1.symm, h.2.symm⟩)

def impl_AreEntries_loops : Nat → Option LoopF := loopTab [(2, impl_AreEntries_loop0_F)]
set_option maxRecDepth 100000 in
theorem impl_AreEntries_l0 : LoopOK Tryd.prog ⟨gam [(110, impl_ValidEntry_c)], tab, 34, impl_AreEntries_loops⟩ (lp Tryd.f71 0) :=
  loopOK_some (F := impl_AreEntries_loop0_F) (by kernel_rfl) (loopF_ok (E := ⟨gam [(110, impl_ValidEntry_c)], tab, 34, impl_AreEntries_loops⟩) ⟨gam_cons impl_ValidEntry_ok (gam_nil), tab_ok, by kernel_rfl⟩ (fuel := 100000) (loopsOK_list (l := []) (by kernel_rfl) trivial) (L := impl_AreEntries_loop0_L) (fun p s => by unfold AgreeL; exact ⟨by kernel_rfl, by kernel_rfl⟩) (fun _ r h => by cases r <;> exact Ex.noConfusion h) impl_AreEntries_loop0_hext impl_AreEntries_loop0_hpost)
/-- loop.example/g01284/impl.AreEntries -/
def impl_AreEntries_tree (a0 : List Entry) : DT (Bool) :=
  let x0 := ((List.length a0 : Nat) : Int);
  .need ((impl_AreEntries_loop0_ends (a0, a0, x0) 0)) (
  let x1 := impl_AreEntries_loop0 (a0, a0, x0) 0;
  .ask ((isL x1))
  (
   .leaf false)
  (
   let x2 := ((List.length a0 : Nat) : Int);
   let x3 := decide (x2 ≤ 16);
   .leaf x3))
def impl_AreEntries (a0 : List Entry) : Bool := (impl_AreEntries_tree a0).val
def impl_AreEntries_need (a0 : List Entry) : Bool := (impl_AreEntries_tree a0).ok
def impl_AreEntries_mk (p : Bool) : Ret := ⟨.bool p, []⟩
def impl_AreEntries_c0 : Con := fun args => match args with
  | [.vslc 1 .entry a0] => some (.need (impl_AreEntries_need a0) (.leaf (impl_AreEntries_mk (impl_AreEntries a0))))
  | _ => none
set_option maxRecDepth 100000 in
theorem impl_AreEntries_ok0 : FunOK Tryd.prog 71 impl_AreEntries_c0.fn := by
  refine con_ok (Γ := gam [(110, impl_ValidEntry_c)]) (gam_cons impl_ValidEntry_ok (gam_nil)) tab_ok (by kernel_rfl) Tryd.func71 (by kernel_rfl) (by kernel_rfl) Tryd.ntmps71 Tryd.results71 (loops := impl_AreEntries_loops) (loopsOK_list (l := [lp Tryd.f71 0]) (by kernel_rfl) ⟨impl_AreEntries_l0, trivial⟩) 100000 fun args t h => ?_
  unfold impl_AreEntries_c0 at h
  split at h
  · rename_i a0
    cases h
    exact ⟨rfl, agree_need (mk := impl_AreEntries_mk) (t := impl_AreEntries_tree a0) (by unfold Agree; kernel_rfl)⟩
  · cases h
def impl_AreEntries_c : Con := fun args => impl_AreEntries_c0 (norms 0 [.slc .entry] args)
set_option maxRecDepth 100000 in
theorem impl_AreEntries_ok : FunOK Tryd.prog 71 impl_AreEntries_c.fn := con_norm [.slc .entry] impl_AreEntries_ok0

/-- a loop of impl_EntriesText -/
def impl_EntriesText_loop0_step (p : List Entry × Int) (s : Int × List (List UInt8)) : Round (Int × List (List UInt8)) (List (List UInt8)) :=
  let x0 := decide (s.1 < p.2);
  .ask x0
  (
   .need ((decide (0 ≤ s.1) && decide (s.1 < ((List.length p.1 : Nat) : Int)))) (
   let x1 := List.getD p.1 (Int.toNat s.1) default;
   .need ((decide (List.length x1.Name + List.length [58] ≤ 9223372036854775807))) (
   let x2 := x1.Name ++ [58];
   let x3 := impl_Orbit_numbers (⟨x1.Orb.Long, x1.Orb.Round, x1.Orb.Tilt, x1.Orb.Node, x1.Orb.Peri, x1.Orb.Phase⟩ : Orbit);
   .need ((decide ((List.length [x1.Mass] + List.length x3) * 4 ≤ 140737488355328) && decide (List.length [x1.Mass] + List.length x3 ≤ 9223372036854775807))) (
   let x4 := [x1.Mass] ++ x3;
   .need ((impl_few_need x4)) (
   let x5 := impl_few x4;
   .need ((decide (List.length x2 + List.length x5 ≤ 9223372036854775807))) (
   let x6 := x2 ++ x5;
   .need ((decide ((List.length s.2 + List.length [x6]) * 16 ≤ 140737488355328) && decide (List.length s.2 + List.length [x6] ≤ 9223372036854775807))) (
   let x7 := s.2 ++ [x6];
   let x8 := IntKind.wrap .i64 (s.1 + 1);
   .leaf (.inl (x8, x7), [153]))))))))
  (
   .leaf (.inr s.2, [0]))
def impl_EntriesText_loop0_L (p : List Entry × Int) : LoopS (Int × List (List UInt8)) (List (List UInt8)) := { tl := fun s => [.junk, .junk, .junk, .junk, .own 0, .junk, .junk, .junk, .junk, .junk, .junk, .vslc 1 .entry p.1, .int .i64 p.2, .int .i64 s.1], hl := fun s => [some (.typed 9 .str s.2)], ex := fun r => .exit 0, otl := fun r => [.junk, .junk, .junk, .junk, .own 0], ohl := fun r => [some (.typed 9 .str r)] }
def impl_EntriesText_loop0_ext : St → Option ((List Entry × Int) × (Int × List (List UInt8)) × List Nat) := fun S => match (S.tm 4).unK, (S.tm 11).unK, (S.tm 12).unK, (S.tm 13).unK with
  | .own i0, .vslc 1 .entry q0, .int .i64 q1, .int .i64 q2 => (match S.hp i0 with
    | some (.typed 9 .str q3) => some ((q0, q1), (q2, q3), [i0])
    | _ => none)
  | _, _, _, _ => none
def impl_EntriesText_loop0_post (p : List Entry × Int) (r : List (List UInt8)) : DT (Ex × St) := .leaf (.exit 0, LSt [.junk, .junk, .junk, .junk, .own 0] [some (.typed 9 .str r)])
def impl_EntriesText_loop0 (p : List Entry × Int) (s : Int × List (List UInt8)) : List (List UInt8) := loopVal (impl_EntriesText_loop0_step p) s
def impl_EntriesText_loop0_ends (p : List Entry × Int) (s : Int × List (List UInt8)) : Bool := loopEnds (impl_EntriesText_loop0_step p) s
def impl_EntriesText_loop0_F : LoopF := loopF impl_EntriesText_loop0_step impl_EntriesText_loop0_ext impl_EntriesText_loop0_post
theorem impl_EntriesText_loop0_hext : ∀ S p s fl, impl_EntriesText_loop0_ext S = some (p, s, fl) → Norm S fl ((impl_EntriesText_loop0_L p).tl s) ((impl_EntriesText_loop0_L p).hl s) (impl_EntriesText_loop0_L p).gl := by
  intro S p s fl h
  unfold impl_EntriesText_loop0_ext at h
  (repeat' split at h) <;> first
    | (cases h; constructor <;> simp_all [impl_EntriesText_loop0_L, keepT, keepH, rens, renH, PV.ren, Blk.ren, fOf, lget, nodup, natIn, lenEq, gtm, PV.unK])
    | cases h
theorem impl_EntriesText_loop0_hpost : ∀ p r e S', (impl_EntriesText_loop0_post p r).get = some (e, S') → e = (impl_EntriesText_loop0_L p).ex r ∧ S' = LSt ((impl_EntriesText_loop0_L p).otl r) ((impl_EntriesText_loop0_L p).ohl r) ((impl_EntriesText_loop0_L p).ogl r) := by
  intro p r e S' h
  unfold impl_EntriesText_loop0_post at h
  simp only [DT.get, Option.some.injEq, Prod.mk.injEq] at h; exact ⟨h.1.symm, h.2.symm⟩

def impl_EntriesText_loops : Nat → Option LoopF := loopTab [(5, impl_EntriesText_loop0_F)]
set_option maxRecDepth 100000 in
theorem impl_EntriesText_l0 : LoopOK Tryd.prog ⟨gam [(71, impl_AreEntries_c), (60, impl_Orbit_numbers_c), (55, impl_few_c), (65, impl_slashed_c)], tab, 35, impl_EntriesText_loops⟩ (lp Tryd.f30 0) :=
  loopOK_some (F := impl_EntriesText_loop0_F) (by kernel_rfl) (loopF_ok (E := ⟨gam [(71, impl_AreEntries_c), (60, impl_Orbit_numbers_c), (55, impl_few_c), (65, impl_slashed_c)], tab, 35, impl_EntriesText_loops⟩) ⟨gam_cons impl_AreEntries_ok (gam_cons impl_Orbit_numbers_ok (gam_cons impl_few_ok (gam_cons impl_slashed_ok (gam_nil)))), tab_ok, by kernel_rfl⟩ (fuel := 100000) (loopsOK_list (l := []) (by kernel_rfl) trivial) (L := impl_EntriesText_loop0_L) (fun p s => by unfold AgreeL; exact ⟨by kernel_rfl, by kernel_rfl⟩) (fun _ _ h => Ex.noConfusion h) impl_EntriesText_loop0_hext impl_EntriesText_loop0_hpost)
/-- loop.example/g01284/impl.EntriesText -/
def impl_EntriesText_tree (a0 : List Entry) : DT ((List UInt8) × Bool) :=
  .need ((impl_AreEntries_need a0)) (
  let x0 := impl_AreEntries a0;
  .ask (!x0)
  (
   .leaf ([], false))
  (
   let x1 := ((List.length a0 : Nat) : Int);
   .need ((impl_EntriesText_loop0_ends (a0, x1) (0, []))) (
   let x2 := impl_EntriesText_loop0 (a0, x1) (0, []);
   .need ((impl_slashed_need x2)) (
   let x3 := impl_slashed x2;
   .leaf (x3, true)))))
def impl_EntriesText (a0 : List Entry) : (List UInt8) × Bool := (impl_EntriesText_tree a0).val
def impl_EntriesText_need (a0 : List Entry) : Bool := (impl_EntriesText_tree a0).ok
def impl_EntriesText_mk (p : (List UInt8) × Bool) : Ret := ⟨.tup [.str p.1, .bool p.2], []⟩
def impl_EntriesText_c0 : Con := fun args => match args with
  | [.vslc 1 .entry a0] => some (.need (impl_EntriesText_need a0) (.leaf (impl_EntriesText_mk (impl_EntriesText a0))))
  | _ => none
set_option maxRecDepth 100000 in
theorem impl_EntriesText_ok0 : FunOK Tryd.prog 30 impl_EntriesText_c0.fn := by
  refine con_ok (Γ := gam [(71, impl_AreEntries_c), (60, impl_Orbit_numbers_c), (55, impl_few_c), (65, impl_slashed_c)]) (gam_cons impl_AreEntries_ok (gam_cons impl_Orbit_numbers_ok (gam_cons impl_few_ok (gam_cons impl_slashed_ok (gam_nil))))) tab_ok (by kernel_rfl) Tryd.func30 (by kernel_rfl) (by kernel_rfl) Tryd.ntmps30 Tryd.results30 (loops := impl_EntriesText_loops) (loopsOK_list (l := [lp Tryd.f30 0]) (by kernel_rfl) ⟨impl_EntriesText_l0, trivial⟩) 100000 fun args t h => ?_
  unfold impl_EntriesText_c0 at h
  split at h
  · rename_i a0
    cases h
    exact ⟨rfl, agree_need (mk := impl_EntriesText_mk) (t := impl_EntriesText_tree a0) (by unfold Agree; kernel_rfl)⟩
  · cases h
def impl_EntriesText_c : Con := fun args => impl_EntriesText_c0 (norms 0 [.slc .entry] args)
set_option maxRecDepth 100000 in
theorem impl_EntriesText_ok : FunOK Tryd.prog 30 impl_EntriesText_c.fn := con_norm [.slc .entry] impl_EntriesText_ok0

/-- loop.example/g01284/laws.eqOrbit -/
def laws_eqOrbit_tree (a0 : Orbit) (a1 : Orbit) : DT (Bool) :=
  .need ((fconvOk .f32 a0.Long .f64)) (
  let x0 := fconv .f32 a0.Long .f64;
  .need ((fconvOk .f32 a1.Long .f64)) (
  let x1 := fconv .f32 a1.Long .f64;
  let x2 := laws_sameFloat x0 x1;
  .ask (!x2)
  (
   .leaf false)
  (
   .need ((fconvOk .f32 a0.Round .f64)) (
   let x3 := fconv .f32 a0.Round .f64;
   .need ((fconvOk .f32 a1.Round .f64)) (
   let x4 := fconv .f32 a1.Round .f64;
   let x5 := laws_sameFloat x3 x4;
   .ask (!x5)
   (
    .leaf false)
   (
    .need ((fconvOk .f32 a0.Tilt .f64)) (
    let x6 := fconv .f32 a0.Tilt .f64;
    .need ((fconvOk .f32 a1.Tilt .f64)) (
    let x7 := fconv .f32 a1.Tilt .f64;
    let x8 := laws_sameFloat x6 x7;
    .ask (!x8)
    (
     .leaf false)
    (
     .need ((fconvOk .f32 a0.Node .f64)) (
     let x9 := fconv .f32 a0.Node .f64;
     .need ((fconvOk .f32 a1.Node .f64)) (
     let x10 := fconv .f32 a1.Node .f64;
     let x11 := laws_sameFloat x9 x10;
     .ask (!x11)
     (
      .leaf false)
     (
      .need ((fconvOk .f32 a0.Peri .f64)) (
      let x12 := fconv .f32 a0.Peri .f64;
      .need ((fconvOk .f32 a1.Peri .f64)) (
      let x13 := fconv .f32 a1.Peri .f64;
      let x14 := laws_sameFloat x12 x13;
      .ask (!x14)
      (
       .leaf false)
      (
       .need ((fconvOk .f32 a0.Phase .f64)) (
       let x15 := fconv .f32 a0.Phase .f64;
       .need ((fconvOk .f32 a1.Phase .f64)) (
       let x16 := fconv .f32 a1.Phase .f64;
       let x17 := laws_sameFloat x15 x16;
       .ask (!x17)
       (
        .leaf false)
       (
        .leaf true))))))))))))))))))
def laws_eqOrbit (a0 : Orbit) (a1 : Orbit) : Bool := (laws_eqOrbit_tree a0 a1).val
def laws_eqOrbit_need (a0 : Orbit) (a1 : Orbit) : Bool := (laws_eqOrbit_tree a0 a1).ok
def laws_eqOrbit_mk (p : Bool) : Ret := ⟨.bool p, []⟩
def laws_eqOrbit_c : Con := fun args => match args with
  | [.agg [.flt .f32 a0_0, .flt .f32 a0_1, .flt .f32 a0_2, .flt .f32 a0_3, .flt .f32 a0_4, .flt .f32 a0_5], .agg [.flt .f32 a1_0, .flt .f32 a1_1, .flt .f32 a1_2, .flt .f32 a1_3, .flt .f32 a1_4, .flt .f32 a1_5]] => some (.need (laws_eqOrbit_need (⟨a0_0, a0_1, a0_2, a0_3, a0_4, a0_5⟩ : Orbit) (⟨a1_0, a1_1, a1_2, a1_3, a1_4, a1_5⟩ : Orbit)) (.leaf (laws_eqOrbit_mk (laws_eqOrbit (⟨a0_0, a0_1, a0_2, a0_3, a0_4, a0_5⟩ : Orbit) (⟨a1_0, a1_1, a1_2, a1_3, a1_4, a1_5⟩ : Orbit)))))
  | _ => none
set_option maxRecDepth 100000 in
theorem laws_eqOrbit_ok : FunOK Tryd.prog 37 laws_eqOrbit_c.fn := by
  refine con_ok (Γ := gam [(75, laws_sameFloat_c)]) (gam_cons laws_sameFloat_ok (gam_nil)) tab_ok (by kernel_rfl) Tryd.func37 (by kernel_rfl) (by kernel_rfl) Tryd.ntmps37 Tryd.results37 (loopsOK_none rfl _) 100000 fun args t h => ?_
  unfold laws_eqOrbit_c at h
  split at h
  · rename_i a0_0 a0_1 a0_2 a0_3 a0_4 a0_5 a1_0 a1_1 a1_2 a1_3 a1_4 a1_5
    cases h
    exact ⟨rfl, agree_need (mk := laws_eqOrbit_mk) (t := laws_eqOrbit_tree (⟨a0_0, a0_1, a0_2, a0_3, a0_4, a0_5⟩ : Orbit) (⟨a1_0, a1_1, a1_2, a1_3, a1_4, a1_5⟩ : Orbit)) (by unfold Agree; kernel_rfl)⟩
  · cases h

/-- loop.example/g01284/laws.eqEntry -/
def laws_eqEntry_tree (a0 : Entry) (a1 : Entry) : DT (Bool) :=
  let x0 := (!(a0.Name == a1.Name));
  .ask x0
  (
   .leaf false)
  (
   .need ((fconvOk .f32 a0.Mass .f64)) (
   let x1 := fconv .f32 a0.Mass .f64;
   .need ((fconvOk .f32 a1.Mass .f64)) (
   let x2 := fconv .f32 a1.Mass .f64;
   let x3 := laws_sameFloat x1 x2;
   .ask (!x3)
   (
    .leaf false)
   (
    .need ((laws_eqOrbit_need (⟨a0.Orb.Long, a0.Orb.Round, a0.Orb.Tilt, a0.Orb.Node, a0.Orb.Peri, a0.Orb.Phase⟩ : Orbit) (⟨a1.Orb.Long, a1.Orb.Round, a1.Orb.Tilt, a1.Orb.Node, a1.Orb.Peri, a1.Orb.Phase⟩ : Orbit))) (
    let x4 := laws_eqOrbit (⟨a0.Orb.Long, a0.Orb.Round, a0.Orb.Tilt, a0.Orb.Node, a0.Orb.Peri, a0.Orb.Phase⟩ : Orbit) (⟨a1.Orb.Long, a1.Orb.Round, a1.Orb.Tilt, a1.Orb.Node, a1.Orb.Peri, a1.Orb.Phase⟩ : Orbit);
    .ask (!x4)
    (
     .leaf false)
    (
     .leaf true))))))
def laws_eqEntry (a0 : Entry) (a1 : Entry) : Bool := (laws_eqEntry_tree a0 a1).val
def laws_eqEntry_need (a0 : Entry) (a1 : Entry) : Bool := (laws_eqEntry_tree a0 a1).ok
def laws_eqEntry_mk (p : Bool) : Ret := ⟨.bool p, []⟩
def laws_eqEntry_c : Con := fun args => match args with
  | [.agg [.str a0_0, .flt .f32 a0_1, .flt .f32 a0_2, .flt .f32 a0_3, .flt .f32 a0_4, .flt .f32 a0_5, .flt .f32 a0_6, .flt .f32 a0_7], .agg [.str a1_0, .flt .f32 a1_1, .flt .f32 a1_2, .flt .f32 a1_3, .flt .f32 a1_4, .flt .f32 a1_5, .flt .f32 a1_6, .flt .f32 a1_7]] => some (.need (laws_eqEntry_need (⟨a0_0, a0_1, ⟨a0_2, a0_3, a0_4, a0_5, a0_6, a0_7⟩⟩ : Entry) (⟨a1_0, a1_1, ⟨a1_2, a1_3, a1_4, a1_5, a1_6, a1_7⟩⟩ : Entry)) (.leaf (laws_eqEntry_mk (laws_eqEntry (⟨a0_0, a0_1, ⟨a0_2, a0_3, a0_4, a0_5, a0_6, a0_7⟩⟩ : Entry) (⟨a1_0, a1_1, ⟨a1_2, a1_3, a1_4, a1_5, a1_6, a1_7⟩⟩ : Entry)))))
  | _ => none
set_option maxRecDepth 100000 in
theorem laws_eqEntry_ok : FunOK Tryd.prog 72 laws_eqEntry_c.fn := by
  refine con_ok (Γ := gam [(75, laws_sameFloat_c), (37, laws_eqOrbit_c)]) (gam_cons laws_sameFloat_ok (gam_cons laws_eqOrbit_ok (gam_nil))) tab_ok (by kernel_rfl) Tryd.func72 (by kernel_rfl) (by kernel_rfl) Tryd.ntmps72 Tryd.results72 (loopsOK_none rfl _) 100000 fun args t h => ?_
  unfold laws_eqEntry_c at h
  split at h
  · rename_i a0_0 a0_1 a0_2 a0_3 a0_4 a0_5 a0_6 a0_7 a1_0 a1_1 a1_2 a1_3 a1_4 a1_5 a1_6 a1_7
    cases h
    exact ⟨rfl, agree_need (mk := laws_eqEntry_mk) (t := laws_eqEntry_tree (⟨a0_0, a0_1, ⟨a0_2, a0_3, a0_4, a0_5, a0_6, a0_7⟩⟩ : Entry) (⟨a1_0, a1_1, ⟨a1_2, a1_3, a1_4, a1_5, a1_6, a1_7⟩⟩ : Entry)) (by unfold Agree; kernel_rfl)⟩
  · cases h

/-- a loop of laws_eqEntryS -/
def laws_eqEntryS_loop0_step (p : List Entry × List Entry) (s : Int) : Round (Int) ((Unit) ⊕ (Unit)) :=
  let x0 := ((List.length p.1 : Nat) : Int);
  let x1 := decide (s < x0);
  .ask x1
  (
   .need ((decide (0 ≤ s) && decide (s < ((List.length p.1 : Nat) : Int)))) (
   let x2 := List.getD p.1 (Int.toNat s) default;
   .need ((decide (0 ≤ s) && decide (s < ((List.length p.2 : Nat) : Int)))) (
   let x3 := List.getD p.2 (Int.toNat s) default;
   .need ((laws_eqEntry_need (⟨x2.Name, x2.Mass, ⟨x2.Orb.Long, x2.Orb.Round, x2.Orb.Tilt, x2.Orb.Node, x2.Orb.Peri, x2.Orb.Phase⟩⟩ : Entry) (⟨x3.Name, x3.Mass, ⟨x3.Orb.Long, x3.Orb.Round, x3.Orb.Tilt, x3.Orb.Node, x3.Orb.Peri, x3.Orb.Phase⟩⟩ : Entry))) (
   let x4 := laws_eqEntry (⟨x2.Name, x2.Mass, ⟨x2.Orb.Long, x2.Orb.Round, x2.Orb.Tilt, x2.Orb.Node, x2.Orb.Peri, x2.Orb.Phase⟩⟩ : Entry) (⟨x3.Name, x3.Mass, ⟨x3.Orb.Long, x3.Orb.Round, x3.Orb.Tilt, x3.Orb.Node, x3.Orb.Peri, x3.Orb.Phase⟩⟩ : Entry);
   .ask (!x4)
   (
    .leaf (.inr (.inl ()), []))
   (
    let x5 := IntKind.wrap .i64 (s + 1);
    .leaf (.inl x5, []))))))
  (
   .leaf (.inr (.inr ()), []))
def laws_eqEntryS_loop0_L (p : List Entry × List Entry) : LoopS (Int) ((Unit) ⊕ (Unit)) := { tl := fun s => [.vslc 1 .entry p.1, .vslc 2 .entry p.2, .junk, .junk, .junk, .int .i64 s], hl := fun s => [], ex := fun r => match r with | .inl r => .ret | .inr r => .exit 0, otl := fun r => match r with | .inl r => [.junk, .junk, .junk, .junk, .bool false] | .inr r => [.junk], ohl := fun r => match r with | .inl r => [] | .inr r => [] }
def laws_eqEntryS_loop0_ext : St → Option ((List Entry × List Entry) × (Int) × List Nat) := fun S => match (S.tm 0).unK, (S.tm 1).unK, (S.tm 5).unK with
  | .vslc 1 .entry q0, .vslc 2 .entry q1, .int .i64 q2 => some ((q0, q1), q2, [])
  | _, _, _ => none
def laws_eqEntryS_loop0_post (p : List Entry × List Entry) (r : (Unit) ⊕ (Unit)) : DT (Ex × St) := .ask (isL r) (.leaf (.ret, LSt [.junk, .junk, .junk, .junk, .bool false] [])) (.leaf (.exit 0, LSt [.junk] []))
def laws_eqEntryS_loop0 (p : List Entry × List Entry) (s : Int) : (Unit) ⊕ (Unit) := loopVal (laws_eqEntryS_loop0_step p) s
def laws_eqEntryS_loop0_ends (p : List Entry × List Entry) (s : Int) : Bool := loopEnds (laws_eqEntryS_loop0_step p) s
def laws_eqEntryS_loop0_F : LoopF := loopF laws_eqEntryS_loop0_step laws_eqEntryS_loop0_ext laws_eqEntryS_loop0_post
theorem laws_eqEntryS_loop0_hext : ∀ S p s fl, laws_eqEntryS_loop0_ext S = some (p, s, fl) → Norm S fl ((laws_eqEntryS_loop0_L p).tl s) ((laws_eqEntryS_loop0_L p).hl s) (laws_eqEntryS_loop0_L p).gl := by
  intro S p s fl h
  unfold laws_eqEntryS_loop0_ext at h
  (repeat' split at h) <;> first
    | (cases h; constructor <;> simp_all [laws_eqEntryS_loop0_L, keepT, keepH, rens, renH, PV.ren, Blk.ren, fOf, lget, nodup, natIn, lenEq, gtm, PV.unK])
    | cases h
theorem laws_eqEntryS_loop0_hpost : ∀ p r e S', (laws_eqEntryS_loop0_post p r).get = some (e, S') → e = (laws_eqEntryS_loop0_L p).ex r ∧ S' = LSt ((laws_eqEntryS_loop0_L p).otl r) ((laws_eqEntryS_loop0_L p).ohl r) ((laws_eqEntryS_loop0_L p).ogl r) := by
  intro p r e S' h
  unfold laws_eqEntryS_loop0_post at h
  cases r <;> (simp only [isL, DT.get, Option.some.injEq, Prod.mk.injEq] at h; exact ⟨h.1.symm, h.2.symm⟩)

def laws_eqEntryS_loops : Nat → Option LoopF := loopTab [(4, laws_eqEntryS_loop0_F)]
set_option maxRecDepth 100000 in
theorem laws_eqEntryS_l0 : LoopOK Tryd.prog ⟨gam [(72, laws_eqEntry_c)], tab, 27, laws_eqEntryS_loops⟩ (lp Tryd.f31 0) :=
  loopOK_some (F := laws_eqEntryS_loop0_F) (by kernel_rfl) (loopF_ok (E := ⟨gam [(72, laws_eqEntry_c)], tab, 27, laws_eqEntryS_loops⟩) ⟨gam_cons laws_eqEntry_ok (gam_nil), tab_ok, by kernel_rfl⟩ (fuel := 100000) (loopsOK_list (l := []) (by kernel_rfl) trivial) (L := laws_eqEntryS_loop0_L) (fun p s => by unfold AgreeL; exact ⟨by kernel_rfl, by kernel_rfl⟩) (fun _ r h => by cases r <;> exact Ex.noConfusion h) laws_eqEntryS_loop0_hext laws_eqEntryS_loop0_hpost)
/-- loop.example/g01284/laws.eqEntryS -/
def laws_eqEntryS_tree (a0 : List Entry) (a1 : List Entry) : DT (Bool) :=
  let x0 := ((List.length a0 : Nat) : Int);
  let x1 := ((List.length a1 : Nat) : Int);
  let x2 := (x0 != x1);
  .ask x2
  (
   .leaf false)
  (
   .need ((laws_eqEntryS_loop0_ends (a0, a1) 0)) (
   let x3 := laws_eqEntryS_loop0 (a0, a1) 0;
   .ask ((isL x3))
   (
    .leaf false)
   (
    .leaf true)))
def laws_eqEntryS (a0 : List Entry) (a1 : List Entry) : Bool := (laws_eqEntryS_tree a0 a1).val
def laws_eqEntryS_need (a0 : List Entry) (a1 : List Entry) : Bool := (laws_eqEntryS_tree a0 a1).ok
def laws_eqEntryS_mk (p : Bool) : Ret := ⟨.bool p, []⟩
def laws_eqEntryS_c0 : Con := fun args => match args with
  | [.vslc 1 .entry a0, .vslc 2 .entry a1] => some (.need (laws_eqEntryS_need a0 a1) (.leaf (laws_eqEntryS_mk (laws_eqEntryS a0 a1))))
  | _ => none
set_option maxRecDepth 100000 in
theorem laws_eqEntryS_ok0 : FunOK Tryd.prog 31 laws_eqEntryS_c0.fn := by
  refine con_ok (Γ := gam [(72, laws_eqEntry_c)]) (gam_cons laws_eqEntry_ok (gam_nil)) tab_ok (by kernel_rfl) Tryd.func31 (by kernel_rfl) (by kernel_rfl) Tryd.ntmps31 Tryd.results31 (loops := laws_eqEntryS_loops) (loopsOK_list (l := [lp Tryd.f31 0]) (by kernel_rfl) ⟨laws_eqEntryS_l0, trivial⟩) 100000 fun args t h => ?_
  unfold laws_eqEntryS_c0 at h
  split at h
  · rename_i a0 a1
    cases h
    exact ⟨rfl, agree_need (mk := laws_eqEntryS_mk) (t := laws_eqEntryS_tree a0 a1) (by unfold Agree; kernel_rfl)⟩
  · cases h
def laws_eqEntryS_c : Con := fun args => laws_eqEntryS_c0 (norms 0 [.slc .entry, .slc .entry] args)
set_option maxRecDepth 100000 in
theorem laws_eqEntryS_ok : FunOK Tryd.prog 31 laws_eqEntryS_c.fn := con_norm [.slc .entry, .slc .entry] laws_eqEntryS_ok0

/-- loop.example/g01284/laws.FnExactEntriesText -/
def laws_FnExactEntriesText_tree (a0 : List Entry) : DT (Bool) :=
  .need ((laws_szEntryS_need a0 1048576)) (
  let x0 := laws_szEntryS a0 1048576;
  let x1 := decide (x0 < 0);
  .ask x1
  (
   .leaf true)
  (
   .need ((laws_toEntryS_need a0)) (
   let x2 := laws_toEntryS a0;
   .need ((spec_EntriesText_need x2)) (
   let x3 := spec_EntriesText x2;
   .need ((laws_toEntryS_need a0)) (
   let x4 := laws_toEntryS a0;
   .need ((impl_EntriesText_need x4)) (
   let x5 := impl_EntriesText x4;
   let x6 := (!(x5.1 == x3.1));
   .ask x6
   (
    .leaf false)
   (
    let x7 := (!(x5.2 == x3.2));
    .ask x7
    (
     .leaf false)
    (
     .need ((laws_toEntryS_need a0)) (
     let x8 := laws_toEntryS a0;
     .need ((laws_eqEntryS_need x4 x8)) (
     let x9 := laws_eqEntryS x4 x8;
     .ask (!x9)
     (
      .leaf false)
     (
      .leaf true)))))))))))
def laws_FnExactEntriesText (a0 : List Entry) : Bool := (laws_FnExactEntriesText_tree a0).val
def laws_FnExactEntriesText_need (a0 : List Entry) : Bool := (laws_FnExactEntriesText_tree a0).ok
def laws_FnExactEntriesText_mk (p : Bool) : Ret := ⟨.bool p, []⟩
def laws_FnExactEntriesText_c0 : Con := fun args => match args with
  | [.vslc 1 .entry a0] => some (.need (laws_FnExactEntriesText_need a0) (.leaf (laws_FnExactEntriesText_mk (laws_FnExactEntriesText a0))))
  | _ => none
set_option maxRecDepth 100000 in
theorem laws_FnExactEntriesText_ok0 : FunOK Tryd.prog 7 laws_FnExactEntriesText_c0.fn := by
  refine con_ok (Γ := gam [(27, laws_szEntryS_c), (29, laws_toEntryS_c), (28, spec_EntriesText_c), (30, impl_EntriesText_c), (31, laws_eqEntryS_c)]) (gam_cons laws_szEntryS_ok (gam_cons laws_toEntryS_ok (gam_cons spec_EntriesText_ok (gam_cons impl_EntriesText_ok (gam_cons laws_eqEntryS_ok (gam_nil)))))) tab_ok (by kernel_rfl) Tryd.func7 (by kernel_rfl) (by kernel_rfl) Tryd.ntmps7 Tryd.results7 (loopsOK_none rfl _) 100000 fun args t h => ?_
  unfold laws_FnExactEntriesText_c0 at h
  split at h
  · rename_i a0
    cases h
    exact ⟨rfl, agree_need (mk := laws_FnExactEntriesText_mk) (t := laws_FnExactEntriesText_tree a0) (by unfold Agree; kernel_rfl)⟩
  · cases h
def laws_FnExactEntriesText_c : Con := fun args => laws_FnExactEntriesText_c0 (norms 0 [.slc .entry] args)
set_option maxRecDepth 100000 in
theorem laws_FnExactEntriesText_ok : FunOK Tryd.prog 7 laws_FnExactEntriesText_c.fn := con_norm [.slc .entry] laws_FnExactEntriesText_ok0

end
end Go.Proofs.YtcipkfndnkmjlaaDoor
