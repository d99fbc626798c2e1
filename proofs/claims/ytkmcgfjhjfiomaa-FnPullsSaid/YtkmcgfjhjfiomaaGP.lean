/- THE WALK, BY A PROGRAM: typed functions, and that the code is they. -/
import Derived.Test.YtkmcgfjhjfiomaaFrom
namespace Go.Proofs.Ytkmcgfjhjfiomaa
set_option linter.unusedVariables false
set_option linter.unusedSimpArgs false
open Go.Extern
noncomputable section

set_option maxRecDepth 100000 in
theorem math_Float64bits_ok : FunOK Try.prog 113 math_Float64bits_c.fn := bits64_ok (run_callFunc_extern Try.func113 (by kernel_rfl) (by kernel_rfl) (by kernel_rfl) (by kernel_rfl))

set_option maxRecDepth 100000 in
theorem math_Float64frombits_ok : FunOK Try.prog 112 math_Float64frombits_c.fn := frombits64_ok (run_callFunc_extern Try.func112 (by kernel_rfl) (by kernel_rfl) (by kernel_rfl) (by kernel_rfl))

set_option maxRecDepth 100000 in
theorem math_sqrt_ok : FunOK Try.prog 115 math_sqrt_c.fn := sqrt_ok (run_callFunc_extern Try.func115 (by kernel_rfl) (by kernel_rfl) (by kernel_rfl) (by kernel_rfl))

set_option maxRecDepth 100000 in
theorem math_archTrunc_ok : FunOK Try.prog 131 math_archTrunc_c.fn := trunc_ok (run_callFunc_extern Try.func131 (by kernel_rfl) (by kernel_rfl) (by kernel_rfl) (by kernel_rfl))

/-- loop.example/g01284/laws.r8Long -/
def laws_r8Long_tree (a0 : List Int) (a1 : List Int) : DT (Bool) :=
  let x0 := ((List.length a0 : Nat) : Int);
  let x1 := decide (x0 > 48);
  .ask x1
  (
   .leaf true)
  (
   let x2 := ((List.length a1 : Nat) : Int);
   let x3 := decide (x2 > 48);
   .leaf x3)
def laws_r8Long (a0 : List Int) (a1 : List Int) : Bool := (laws_r8Long_tree a0 a1).val
def laws_r8Long_mk (p : Bool) : Ret := ⟨.bool p, []⟩
def laws_r8Long_c0 : Con := fun args => match args with
  | [.vslc 1 (.int .u8) a0, .vslc 2 (.int .u8) a1] => some (.leaf (laws_r8Long_mk (laws_r8Long a0 a1)))
  | _ => none
set_option maxRecDepth 100000 in
theorem laws_r8Long_ok0 : FunOK Try.prog 5 laws_r8Long_c0.fn := by
  refine con_ok (Γ := gam []) (gam_nil) tab_ok (by kernel_rfl) Try.func5 (by kernel_rfl) (by kernel_rfl) Try.ntmps5 Try.results5 (loopsOK_none rfl _) 100000 fun args t h => ?_
  unfold laws_r8Long_c0 at h
  split at h
  · rename_i a0 a1
    cases h
    exact ⟨rfl, agree_tot (mk := laws_r8Long_mk) (t := laws_r8Long_tree a0 a1) (by unfold Agree; kernel_rfl) (by kernel_rfl)⟩
  · cases h
def laws_r8Long_c : Con := fun args => laws_r8Long_c0 (norms 0 [.slc (.int .u8), .slc (.int .u8)] args)
set_option maxRecDepth 100000 in
theorem laws_r8Long_ok : FunOK Try.prog 5 laws_r8Long_c.fn := con_norm [.slc (.int .u8), .slc (.int .u8)] laws_r8Long_ok0

/-- loop.example/g01284/laws.r8At -/
def laws_r8At_tree (a0 : List Int) (a1 : Int) (a2 : Int) : DT (Int) :=
  let x0 := decide (a2 ≤ 1);
  .ask x0
  (
   .leaf 0)
  (
   let x1 := ((List.length a0 : Nat) : Int);
   let x2 := decide (a1 ≥ x1);
   .ask x2
   (
    .leaf 0)
   (
    .need ((decide (0 ≤ a1) && decide (a1 < ((List.length a0 : Nat) : Int)))) (
    let x3 := List.getD a0 (Int.toNat a1) default;
    let x4 := IntKind.wrap .i64 x3;
    .need ((a2 != 0)) (
    let x5 := Int.tmod x4 a2;
    .leaf x5))))
def laws_r8At (a0 : List Int) (a1 : Int) (a2 : Int) : Int := (laws_r8At_tree a0 a1 a2).val
def laws_r8At_need (a0 : List Int) (a1 : Int) (a2 : Int) : Bool := (laws_r8At_tree a0 a1 a2).ok
def laws_r8At_mk (p : Int) : Ret := ⟨.int .i64 p, []⟩
def laws_r8At_c0 : Con := fun args => match args with
  | [.vslc 1 (.int .u8) a0, .int .i64 a1, .int .i64 a2] => some (.need (laws_r8At_need a0 a1 a2) (.leaf (laws_r8At_mk (laws_r8At a0 a1 a2))))
  | _ => none
set_option maxRecDepth 100000 in
theorem laws_r8At_ok0 : FunOK Try.prog 6 laws_r8At_c0.fn := by
  refine con_ok (Γ := gam []) (gam_nil) tab_ok (by kernel_rfl) Try.func6 (by kernel_rfl) (by kernel_rfl) Try.ntmps6 Try.results6 (loopsOK_none rfl _) 100000 fun args t h => ?_
  unfold laws_r8At_c0 at h
  split at h
  · rename_i a0 a1 a2
    cases h
    exact ⟨rfl, agree_need (mk := laws_r8At_mk) (t := laws_r8At_tree a0 a1 a2) (by unfold Agree; kernel_rfl)⟩
  · cases h
def laws_r8At_c : Con := fun args => laws_r8At_c0 (norms 0 [.slc (.int .u8), .none, .none] args)
set_option maxRecDepth 100000 in
theorem laws_r8At_ok : FunOK Try.prog 6 laws_r8At_c.fn := con_norm [.slc (.int .u8), .none, .none] laws_r8At_ok0

/-- (*loop.example/g01284/spec.l00Src).next -/
def spec_l00Src_next_tree (a0_0 : List Int) (a0_1 : Int) (a0_2 : Int) : DT (Int × Int × Int) :=
  let x0 := ((List.length a0_0 : Nat) : Int);
  let x1 := decide (a0_1 < x0);
  .ask x1
  (
   .need ((decide (0 ≤ a0_1) && decide (a0_1 < ((List.length a0_0 : Nat) : Int)))) (
   let x2 := List.getD a0_0 (Int.toNat a0_1) default;
   let x3 := IntKind.wrap .i64 x2;
   let x4 := IntKind.wrap .i64 (a0_1 + 1);
   let x5 := IntKind.wrap .u64 (a0_2 * 6364136223846793005);
   let x6 := IntKind.wrap .u64 x3;
   let x7 := IntKind.wrap .u64 (x5 + x6);
   let x8 := IntKind.wrap .u64 (x7 + 1442695040888963407);
   let x9 := ((List.length a0_0 : Nat) : Int);
   let x10 := decide (x4 ≤ x9);
   .ask x10
   (
    .leaf (x3, x4, x8))
   (
    .skip (
    let x11 := Int.fdiv x8 (2 ^ (min (Int.toNat 40) (IntKind.bits .u64)));
    let x12 := IntKind.wrap .u64 (BitVec.ofInt (IntKind.bits .u64) x11 &&& BitVec.ofInt (IntKind.bits .u64) 255).toNat;
    let x13 := IntKind.wrap .i64 x12;
    .leaf (x13, x4, x8)))))
  (
   let x2 := IntKind.wrap .i64 (a0_1 + 1);
   let x3 := IntKind.wrap .u64 (a0_2 * 6364136223846793005);
   let x4 := IntKind.wrap .u64 (x3 + 0);
   let x5 := IntKind.wrap .u64 (x4 + 1442695040888963407);
   let x6 := ((List.length a0_0 : Nat) : Int);
   let x7 := decide (x2 ≤ x6);
   .ask x7
   (
    .leaf (0, x2, x5))
   (
    .skip (
    let x8 := Int.fdiv x5 (2 ^ (min (Int.toNat 40) (IntKind.bits .u64)));
    let x9 := IntKind.wrap .u64 (BitVec.ofInt (IntKind.bits .u64) x8 &&& BitVec.ofInt (IntKind.bits .u64) 255).toNat;
    let x10 := IntKind.wrap .i64 x9;
    .leaf (x10, x2, x5))))
def spec_l00Src_next (a0_0 : List Int) (a0_1 : Int) (a0_2 : Int) : Int × Int × Int := (spec_l00Src_next_tree a0_0 a0_1 a0_2).val
def spec_l00Src_next_need (a0_0 : List Int) (a0_1 : Int) (a0_2 : Int) : Bool := (spec_l00Src_next_tree a0_0 a0_1 a0_2).ok
def spec_l00Src_next_mk (p : Int × Int × Int) : PV × List (Option PV) := (.int .i64 p.1, [none, some (.int .i64 p.2.1), some (.int .u64 p.2.2)])
def spec_l00Src_next_M : BCon := fun cs ps => match cs, ps with
  | [.vslc 0 (.int .u8) a0_0, .int .i64 a0_1, .int .u64 a0_2], [] => some (.need (spec_l00Src_next_need a0_0 a0_1 a0_2) (.leaf (spec_l00Src_next_mk (spec_l00Src_next a0_0 a0_1 a0_2))))
  | _, _ => none
set_option maxRecDepth 100000 in
theorem spec_l00Src_next_ok : BoxOK Try.prog 79 spec_l00Src_next_M := by
  refine box_ok (Γ := gam []) (gam_nil) tab_ok (by kernel_rfl) Try.func79 (by kernel_rfl) (by kernel_rfl) Try.ntmps79 Try.results79 (loopsOK_none rfl _) 100000 fun cs ps t h => ?_
  unfold spec_l00Src_next_M at h
  split at h
  · rename_i a0_0 a0_1 a0_2
    cases h
    exact ⟨rfl, agreeB_need (mk := spec_l00Src_next_mk) (t := spec_l00Src_next_tree a0_0 a0_1 a0_2) (by unfold AgreeB; kernel_rfl)⟩
  · cases h

/-- (*loop.example/g01284/spec.l00Src).pick -/
def spec_l00Src_pick_tree (a0_0 : List Int) (a0_1 : Int) (a0_2 : Int) (a1 : Int) : DT (Int × Int × Int) :=
  let x0 := decide (a1 ≤ 1);
  .ask x0
  (
   .leaf (0, a0_1, a0_2))
  (
   .need ((spec_l00Src_next_need a0_0 a0_1 a0_2)) (
   let x1 := spec_l00Src_next a0_0 a0_1 a0_2;
   let x2 := decide (a1 > 200);
   .ask x2
   (
    let x3 := IntKind.wrap .i64 (x1.1 * 256);
    .need ((spec_l00Src_next_need a0_0 x1.2.1 x1.2.2)) (
    let x4 := spec_l00Src_next a0_0 x1.2.1 x1.2.2;
    let x5 := IntKind.wrap .i64 (x3 + x4.1);
    .need ((a1 != 0)) (
    let x6 := Int.tmod x5 a1;
    .leaf (x6, x4.2.1, x4.2.2))))
   (
    .need ((a1 != 0)) (
    let x3 := Int.tmod x1.1 a1;
    .leaf (x3, x1.2.1, x1.2.2)))))
def spec_l00Src_pick (a0_0 : List Int) (a0_1 : Int) (a0_2 : Int) (a1 : Int) : Int × Int × Int := (spec_l00Src_pick_tree a0_0 a0_1 a0_2 a1).val
def spec_l00Src_pick_need (a0_0 : List Int) (a0_1 : Int) (a0_2 : Int) (a1 : Int) : Bool := (spec_l00Src_pick_tree a0_0 a0_1 a0_2 a1).ok
def spec_l00Src_pick_mk (p : Int × Int × Int) : PV × List (Option PV) := (.int .i64 p.1, [none, some (.int .i64 p.2.1), some (.int .u64 p.2.2)])
def spec_l00Src_pick_M : BCon := fun cs ps => match cs, ps with
  | [.vslc 0 (.int .u8) a0_0, .int .i64 a0_1, .int .u64 a0_2], [.int .i64 a1] => some (.need (spec_l00Src_pick_need a0_0 a0_1 a0_2 a1) (.leaf (spec_l00Src_pick_mk (spec_l00Src_pick a0_0 a0_1 a0_2 a1))))
  | _, _ => none
set_option maxRecDepth 100000 in
theorem spec_l00Src_pick_ok : BoxOK Try.prog 39 spec_l00Src_pick_M := by
  refine box_ok (Γ := gam [] [] [(79, spec_l00Src_next_M)] []) (gam_box spec_l00Src_next_ok (gam_nil)) tab_ok (by kernel_rfl) Try.func39 (by kernel_rfl) (by kernel_rfl) Try.ntmps39 Try.results39 (loopsOK_none rfl _) 100000 fun cs ps t h => ?_
  unfold spec_l00Src_pick_M at h
  split at h
  · rename_i a0_0 a0_1 a0_2 a1
    cases h
    exact ⟨rfl, agreeB_need (mk := spec_l00Src_pick_mk) (t := spec_l00Src_pick_tree a0_0 a0_1 a0_2 a1) (by unfold AgreeB; kernel_rfl)⟩
  · cases h

/-- a loop of spec_R8Bodies -/
def spec_R8Bodies_loop0_step (p : List Int) (s : Int × Nat × Int × Int × List Body) : Round (Int × Nat × Int × Int × List Body) (List Body) :=
  let x0 := decide (s.1 > 0);
  .ask x0
  (
   .need ((spec_l00Src_pick_need p s.2.2.1 s.2.2.2.1 3)) (
   let x1 := spec_l00Src_pick p s.2.2.1 s.2.2.2.1 3;
   let x2 := IntKind.wrap .i64 (1 + x1.1);
   let x3 := fofInt .f32 x2;
   let x4 := fadd .f32 s.2.1 x3;
   .need ((spec_l00Src_pick_need p x1.2.1 x1.2.2 9)) (
   let x5 := spec_l00Src_pick p x1.2.1 x1.2.2 9;
   let x6 := IntKind.wrap .i64 (x5.1 - 4);
   let x7 := fofInt .f32 x6;
   let x8 := fdiv .f32 x7 1082130432;
   .need ((spec_l00Src_pick_need p x5.2.1 x5.2.2 9)) (
   let x9 := spec_l00Src_pick p x5.2.1 x5.2.2 9;
   let x10 := IntKind.wrap .i64 (x9.1 - 4);
   let x11 := fofInt .f32 x10;
   let x12 := fdiv .f32 x11 1082130432;
   .need ((spec_l00Src_pick_need p x9.2.1 x9.2.2 9)) (
   let x13 := spec_l00Src_pick p x9.2.1 x9.2.2 9;
   let x14 := IntKind.wrap .i64 (x13.1 - 4);
   let x15 := fofInt .f32 x14;
   let x16 := fdiv .f32 x15 1082130432;
   .need ((spec_l00Src_pick_need p x13.2.1 x13.2.2 9)) (
   let x17 := spec_l00Src_pick p x13.2.1 x13.2.2 9;
   let x18 := IntKind.wrap .i64 (x17.1 - 4);
   let x19 := fofInt .f32 x18;
   let x20 := fdiv .f32 x19 1082130432;
   .need ((spec_l00Src_pick_need p x17.2.1 x17.2.2 9)) (
   let x21 := spec_l00Src_pick p x17.2.1 x17.2.2 9;
   let x22 := IntKind.wrap .i64 (x21.1 - 4);
   let x23 := fofInt .f32 x22;
   let x24 := fdiv .f32 x23 1082130432;
   .need ((spec_l00Src_pick_need p x21.2.1 x21.2.2 8)) (
   let x25 := spec_l00Src_pick p x21.2.1 x21.2.2 8;
   let x26 := IntKind.wrap .i64 (1 + x25.1);
   let x27 := fofInt .f32 x26;
   let x28 := fdiv .f32 x27 1082130432;
   .need ((decide ((List.length s.2.2.2.2 + List.length [(⟨⟨x4, x8, x12⟩, ⟨x16, x20, x24⟩, x28⟩ : Body)]) * 28 ≤ 140737488355328) && decide (List.length s.2.2.2.2 + List.length [(⟨⟨x4, x8, x12⟩, ⟨x16, x20, x24⟩, x28⟩ : Body)] ≤ 9223372036854775807))) (
   let x29 := s.2.2.2.2 ++ [(⟨⟨x4, x8, x12⟩, ⟨x16, x20, x24⟩, x28⟩ : Body)];
   let x30 := IntKind.wrap .i64 (s.1 - 1);
   .leaf (.inl (x30, x4, x25.2.1, x25.2.2, x29), [0, 490]))))))))))
  (
   .leaf (.inr s.2.2.2.2, [1]))
def spec_R8Bodies_loop0_L (p : List Int) : LoopS (Int × Nat × Int × Int × List Body) (List Body) := { tl := fun s => [.junk, .int .i64 s.1, .junk, .junk, .junk, .ptr 0 0, .own 1, .flt .f32 s.2.1], hl := fun s => [some (.cells [.vslc 1 (.int .u8) p, .int .i64 s.2.2.1, .int .u64 s.2.2.2.1]), some (.typed 72 .body s.2.2.2.2)], ex := fun r => .exit 0, otl := fun r => [.junk, .junk, .junk, .junk, .junk, .junk, .own 0], ohl := fun r => [some (.typed 72 .body r)] }
def spec_R8Bodies_loop0_ext : St → Option ((List Int) × (Int × Nat × Int × Int × List Body) × List Nat) := fun S => match (S.tm 1).unK, (S.tm 5).unK, (S.tm 6).unK, (S.tm 7).unK with
  | .int .i64 q0, .ptr i0 0, .own i1, .flt .f32 q1 => (match S.hp i0 with
    | some (.cells [.vslc 1 (.int .u8) q2, .int .i64 q3, .int .u64 q4]) => (match S.hp i1 with
    | some (.typed 72 .body q5) => (if nodup [i0, i1] = true then some (q2, (q0, q1, q3, q4, q5), [i0, i1]) else none)
    | _ => none)
    | _ => none)
  | _, _, _, _ => none
def spec_R8Bodies_loop0_post (p : List Int) (r : List Body) : DT (Ex × St) := .leaf (.exit 0, LSt [.junk, .junk, .junk, .junk, .junk, .junk, .own 0] [some (.typed 72 .body r)])
def spec_R8Bodies_loop0 (p : List Int) (s : Int × Nat × Int × Int × List Body) : List Body := loopVal (spec_R8Bodies_loop0_step p) s
def spec_R8Bodies_loop0_ends (p : List Int) (s : Int × Nat × Int × Int × List Body) : Bool := loopEnds (spec_R8Bodies_loop0_step p) s
def spec_R8Bodies_loop0_F : LoopF := loopF spec_R8Bodies_loop0_step spec_R8Bodies_loop0_ext spec_R8Bodies_loop0_post
set_option maxRecDepth 100000 in
theorem spec_R8Bodies_loop0_hext : ∀ S p s fl, spec_R8Bodies_loop0_ext S = some (p, s, fl) → Norm S fl ((spec_R8Bodies_loop0_L p).tl s) ((spec_R8Bodies_loop0_L p).hl s) (spec_R8Bodies_loop0_L p).gl := by
  intro S p s fl h
  unfold spec_R8Bodies_loop0_ext at h
  (repeat' split at h) <;> first
    | (cases h; constructor <;> simp_all [spec_R8Bodies_loop0_L, keepT, keepH, rens, renH, PV.ren, Blk.ren, fOf, lget, nodup, natIn, lenEq, gtm, PV.unK])
    | cases h
set_option maxRecDepth 100000 in
theorem spec_R8Bodies_loop0_hpost : ∀ p r e S', (spec_R8Bodies_loop0_post p r).get = some (e, S') → e = (spec_R8Bodies_loop0_L p).ex r ∧ S' = LSt ((spec_R8Bodies_loop0_L p).otl r) ((spec_R8Bodies_loop0_L p).ohl r) ((spec_R8Bodies_loop0_L p).ogl r) := by
  intro p r e S' h
  unfold spec_R8Bodies_loop0_post at h
  simp only [DT.get, Option.some.injEq, Prod.mk.injEq] at h; exact ⟨h.1.symm, h.2.symm⟩

def spec_R8Bodies_loops : Nat → Option LoopF := loopTab [(4, spec_R8Bodies_loop0_F)]
set_option maxRecDepth 100000 in
theorem spec_R8Bodies_l0 : LoopOK Try.prog ⟨gam [] [] [(39, spec_l00Src_pick_M)] [(37, spec_l00From_M)], tab, 69, spec_R8Bodies_loops⟩ (lp Try.f23 0) :=
  loopOK_some (F := spec_R8Bodies_loop0_F) (by kernel_rfl) (loopF_ok (E := ⟨gam [] [] [(39, spec_l00Src_pick_M)] [(37, spec_l00From_M)], tab, 69, spec_R8Bodies_loops⟩) ⟨gam_box spec_l00Src_pick_ok (gam_new spec_l00From_ok (gam_nil)), tab_ok, by kernel_rfl⟩ (fuel := 100000) (loopsOK_list (l := []) (by kernel_rfl) trivial) (L := spec_R8Bodies_loop0_L) (fun p s => by unfold AgreeL; exact ⟨by kernel_rfl, by kernel_rfl⟩) (fun _ _ h => Ex.noConfusion h) spec_R8Bodies_loop0_hext spec_R8Bodies_loop0_hpost)
/-- loop.example/g01284/spec.R8Bodies -/
def spec_R8Bodies_tree (a0 : List Int) (a1 : Int) : DT (List Body) :=
  .need ((spec_R8Bodies_loop0_ends a0 (a1, 3231711232, 0, 0, []))) (
  let x0 := spec_R8Bodies_loop0 a0 (a1, 3231711232, 0, 0, []);
  .leaf x0)
def spec_R8Bodies (a0 : List Int) (a1 : Int) : List Body := (spec_R8Bodies_tree a0 a1).val
def spec_R8Bodies_need (a0 : List Int) (a1 : Int) : Bool := (spec_R8Bodies_tree a0 a1).ok
def spec_R8Bodies_mk (p : List Body) : Ret := ⟨.own 0, [.typed 72 .body p]⟩
def spec_R8Bodies_c0 : Con := fun args => match args with
  | [.vslc 1 (.int .u8) a0, .int .i64 a1] => some (.need (spec_R8Bodies_need a0 a1) (.leaf (spec_R8Bodies_mk (spec_R8Bodies a0 a1))))
  | _ => none
set_option maxRecDepth 100000 in
theorem spec_R8Bodies_ok0 : FunOK Try.prog 23 spec_R8Bodies_c0.fn := by
  refine con_ok (Γ := gam [] [] [(39, spec_l00Src_pick_M)] [(37, spec_l00From_M)]) (gam_box spec_l00Src_pick_ok (gam_new spec_l00From_ok (gam_nil))) tab_ok (by kernel_rfl) Try.func23 (by kernel_rfl) (by kernel_rfl) Try.ntmps23 Try.results23 (loops := spec_R8Bodies_loops) (loopsOK_list (l := [lp Try.f23 0]) (by kernel_rfl) ⟨spec_R8Bodies_l0, trivial⟩) 100000 fun args t h => ?_
  unfold spec_R8Bodies_c0 at h
  split at h
  · rename_i a0 a1
    cases h
    exact ⟨rfl, agree_need (mk := spec_R8Bodies_mk) (t := spec_R8Bodies_tree a0 a1) (by unfold Agree; kernel_rfl)⟩
  · cases h
def spec_R8Bodies_c : Con := fun args => spec_R8Bodies_c0 (norms 0 [.slc (.int .u8), .none] args)
set_option maxRecDepth 100000 in
theorem spec_R8Bodies_ok : FunOK Try.prog 23 spec_R8Bodies_c.fn := con_norm [.slc (.int .u8), .none] spec_R8Bodies_ok0

/-- (loop.example/g01284/impl.Vector).numbers -/
def impl_Vector_numbers_tree (a0 : Vec) : DT (List Nat) :=
  .leaf ([a0.X, a0.Y, a0.Z])
def impl_Vector_numbers (a0 : Vec) : List Nat := (impl_Vector_numbers_tree a0).val
def impl_Vector_numbers_mk (p : List Nat) : Ret := ⟨.own 0, [.typed 31 (.flt .f32) p]⟩
def impl_Vector_numbers_c : Con := fun args => match args with
  | [.agg [.flt .f32 a0_0, .flt .f32 a0_1, .flt .f32 a0_2]] => some (.leaf (impl_Vector_numbers_mk (impl_Vector_numbers (⟨a0_0, a0_1, a0_2⟩ : Vec))))
  | _ => none
set_option maxRecDepth 100000 in
theorem impl_Vector_numbers_ok : FunOK Try.prog 91 impl_Vector_numbers_c.fn := by
  refine con_ok (Γ := gam []) (gam_nil) tab_ok (by kernel_rfl) Try.func91 (by kernel_rfl) (by kernel_rfl) Try.ntmps91 Try.results91 (loopsOK_none rfl _) 100000 fun args t h => ?_
  unfold impl_Vector_numbers_c at h
  split at h
  · rename_i a0_0 a0_1 a0_2
    cases h
    exact ⟨rfl, agree_tot (mk := impl_Vector_numbers_mk) (t := impl_Vector_numbers_tree (⟨a0_0, a0_1, a0_2⟩ : Vec)) (by unfold Agree; kernel_rfl) (by kernel_rfl)⟩
  · cases h

/-- math.IsNaN -/
def math_IsNaN_tree (a0 : Nat) : DT (Bool) :=
  let x0 := fne .f64 a0 a0;
  .leaf x0
def math_IsNaN (a0 : Nat) : Bool := (math_IsNaN_tree a0).val
def math_IsNaN_mk (p : Bool) : Ret := ⟨.bool p, []⟩
def math_IsNaN_c : Con := fun args => match args with
  | [.flt .f64 a0] => some (.leaf (math_IsNaN_mk (math_IsNaN a0)))
  | _ => none
set_option maxRecDepth 100000 in
theorem math_IsNaN_ok : FunOK Try.prog 110 math_IsNaN_c.fn := by
  refine con_ok (Γ := gam []) (gam_nil) tab_ok (by kernel_rfl) Try.func110 (by kernel_rfl) (by kernel_rfl) Try.ntmps110 Try.results110 (loopsOK_none rfl _) 100000 fun args t h => ?_
  unfold math_IsNaN_c at h
  split at h
  · rename_i a0
    cases h
    exact ⟨rfl, agree_tot (mk := math_IsNaN_mk) (t := math_IsNaN_tree a0) (by unfold Agree; kernel_rfl) (by kernel_rfl)⟩
  · cases h

/-- math.Abs -/
def math_Abs_tree (a0 : Nat) : DT (Nat) :=
  .ask ((isNaN .f64 a0))
  (
   .leaf 9221120237041090560)
  (
   let x0 := IntKind.wrap .u64 (BitVec.ofInt (IntKind.bits .u64) ((a0 : Nat) : Int) &&& ~~~ BitVec.ofInt (IntKind.bits .u64) 9223372036854775808).toNat;
   let x1 := canon .f64 (Int.toNat x0);
   .leaf x1)
def math_Abs (a0 : Nat) : Nat := (math_Abs_tree a0).val
def math_Abs_mk (p : Nat) : Ret := ⟨.flt .f64 p, []⟩
def math_Abs_c : Con := fun args => match args with
  | [.flt .f64 a0] => some (.leaf (math_Abs_mk (math_Abs a0)))
  | _ => none
set_option maxRecDepth 100000 in
theorem math_Abs_ok : FunOK Try.prog 84 math_Abs_c.fn := by
  refine con_ok (Γ := gam [(113, math_Float64bits_c), (112, math_Float64frombits_c)]) (gam_cons math_Float64bits_ok (gam_cons math_Float64frombits_ok (gam_nil))) tab_ok (by kernel_rfl) Try.func84 (by kernel_rfl) (by kernel_rfl) Try.ntmps84 Try.results84 (loopsOK_none rfl _) 100000 fun args t h => ?_
  unfold math_Abs_c at h
  split at h
  · rename_i a0
    cases h
    exact ⟨rfl, agree_tot (mk := math_Abs_mk) (t := math_Abs_tree a0) (by unfold Agree; kernel_rfl) (by kernel_rfl)⟩
  · cases h

/-- math.IsInf -/
def math_IsInf_tree (a0 : Nat) (a1 : Int) : DT (Bool) :=
  let x0 := (a1 == 0);
  .ask x0
  (
   let x1 := math_Abs a0;
   let x2 := fgt .f64 x1 9218868437227405311;
   .leaf x2)
  (
   let x1 := decide (a1 < 0);
   .ask x1
   (
    let x2 := fneg .f64 a0;
    let x3 := fgt .f64 x2 9218868437227405311;
    .leaf x3)
   (
    let x2 := fgt .f64 a0 9218868437227405311;
    .leaf x2))
def math_IsInf (a0 : Nat) (a1 : Int) : Bool := (math_IsInf_tree a0 a1).val
def math_IsInf_mk (p : Bool) : Ret := ⟨.bool p, []⟩
def math_IsInf_c : Con := fun args => match args with
  | [.flt .f64 a0, .int .i64 a1] => some (.leaf (math_IsInf_mk (math_IsInf a0 a1)))
  | _ => none
set_option maxRecDepth 100000 in
theorem math_IsInf_ok : FunOK Try.prog 111 math_IsInf_c.fn := by
  refine con_ok (Γ := gam [(84, math_Abs_c)]) (gam_cons math_Abs_ok (gam_nil)) tab_ok (by kernel_rfl) Try.func111 (by kernel_rfl) (by kernel_rfl) Try.ntmps111 Try.results111 (loopsOK_none rfl _) 100000 fun args t h => ?_
  unfold math_IsInf_c at h
  split at h
  · rename_i a0 a1
    cases h
    exact ⟨rfl, agree_tot (mk := math_IsInf_mk) (t := math_IsInf_tree a0 a1) (by unfold Agree; kernel_rfl) (by kernel_rfl)⟩
  · cases h

/-- loop.example/g01284/impl.finite -/
def impl_finite_tree (a0 : Nat) : DT (Bool) :=
  let x0 := math_IsNaN a0;
  .ask (!x0)
  (
   let x1 := math_IsInf a0 0;
   .leaf (!x1))
  (
   .leaf false)
def impl_finite (a0 : Nat) : Bool := (impl_finite_tree a0).val
def impl_finite_mk (p : Bool) : Ret := ⟨.bool p, []⟩
def impl_finite_c : Con := fun args => match args with
  | [.flt .f64 a0] => some (.leaf (impl_finite_mk (impl_finite a0)))
  | _ => none
set_option maxRecDepth 100000 in
theorem impl_finite_ok : FunOK Try.prog 82 impl_finite_c.fn := by
  refine con_ok (Γ := gam [(110, math_IsNaN_c), (111, math_IsInf_c)]) (gam_cons math_IsNaN_ok (gam_cons math_IsInf_ok (gam_nil))) tab_ok (by kernel_rfl) Try.func82 (by kernel_rfl) (by kernel_rfl) Try.ntmps82 Try.results82 (loopsOK_none rfl _) 100000 fun args t h => ?_
  unfold impl_finite_c at h
  split at h
  · rename_i a0
    cases h
    exact ⟨rfl, agree_tot (mk := impl_finite_mk) (t := impl_finite_tree a0) (by unfold Agree; kernel_rfl) (by kernel_rfl)⟩
  · cases h

/-- loop.example/g01284/impl.IsFinite -/
def impl_IsFinite_tree (a0 : Nat) : DT (Bool) :=
  .need ((fconvOk .f32 a0 .f64)) (
  let x0 := fconv .f32 a0 .f64;
  let x1 := impl_finite x0;
  .leaf x1)
def impl_IsFinite (a0 : Nat) : Bool := (impl_IsFinite_tree a0).val
def impl_IsFinite_need (a0 : Nat) : Bool := (impl_IsFinite_tree a0).ok
def impl_IsFinite_mk (p : Bool) : Ret := ⟨.bool p, []⟩
def impl_IsFinite_c : Con := fun args => match args with
  | [.flt .f32 a0] => some (.need (impl_IsFinite_need a0) (.leaf (impl_IsFinite_mk (impl_IsFinite a0))))
  | _ => none
set_option maxRecDepth 100000 in
theorem impl_IsFinite_ok : FunOK Try.prog 43 impl_IsFinite_c.fn := by
  refine con_ok (Γ := gam [(82, impl_finite_c)]) (gam_cons impl_finite_ok (gam_nil)) tab_ok (by kernel_rfl) Try.func43 (by kernel_rfl) (by kernel_rfl) Try.ntmps43 Try.results43 (loopsOK_none rfl _) 100000 fun args t h => ?_
  unfold impl_IsFinite_c at h
  split at h
  · rename_i a0
    cases h
    exact ⟨rfl, agree_need (mk := impl_IsFinite_mk) (t := impl_IsFinite_tree a0) (by unfold Agree; kernel_rfl)⟩
  · cases h

/-- loop.example/g01284/impl.areFinite$1 -/
def impl_areFinite_1_tree (a0 : Nat) : DT (Bool) :=
  .need ((impl_IsFinite_need a0)) (
  let x0 := impl_IsFinite a0;
  .leaf (!x0))
def impl_areFinite_1 (a0 : Nat) : Bool := (impl_areFinite_1_tree a0).val
def impl_areFinite_1_need (a0 : Nat) : Bool := (impl_areFinite_1_tree a0).ok
def impl_areFinite_1_mk (p : Bool) : Ret := ⟨.bool p, []⟩
def impl_areFinite_1_c : Con := fun args => match args with
  | [.flt .f32 a0] => some (.need (impl_areFinite_1_need a0) (.leaf (impl_areFinite_1_mk (impl_areFinite_1 a0))))
  | _ => none
set_option maxRecDepth 100000 in
theorem impl_areFinite_1_ok : FunOK Try.prog 98 impl_areFinite_1_c.fn := by
  refine con_ok (Γ := gam [(43, impl_IsFinite_c)]) (gam_cons impl_IsFinite_ok (gam_nil)) tab_ok (by kernel_rfl) Try.func98 (by kernel_rfl) (by kernel_rfl) Try.ntmps98 Try.results98 (loopsOK_none rfl _) 100000 fun args t h => ?_
  unfold impl_areFinite_1_c at h
  split at h
  · rename_i a0
    cases h
    exact ⟨rfl, agree_need (mk := impl_areFinite_1_mk) (t := impl_areFinite_1_tree a0) (by unfold Agree; kernel_rfl)⟩
  · cases h

/-- a loop of slices_IndexFunc___float32_float32__impl_areFinite_1 -/
def slices_IndexFunc___float32_float32__impl_areFinite_1_loop0_step (p : List Nat × Int) (s : Int) : Round (Int) ((Int) ⊕ (Unit)) :=
  let x0 := decide (s < p.2);
  .ask x0
  (
   .need ((decide (0 ≤ s) && decide (s < ((List.length p.1 : Nat) : Int)))) (
   let x1 := List.getD p.1 (Int.toNat s) default;
   .need ((impl_areFinite_1_need x1)) (
   let x2 := impl_areFinite_1 x1;
   .ask x2
   (
    .leaf (.inr (.inl s), []))
   (
    let x3 := IntKind.wrap .i64 (s + 1);
    .leaf (.inl x3, [])))))
  (
   .leaf (.inr (.inr ()), []))
def slices_IndexFunc___float32_float32__impl_areFinite_1_loop0_L (p : List Nat × Int) : LoopS (Int) ((Int) ⊕ (Unit)) := { tl := fun s => [.vslc 1 (.flt .f32) p.1, .func (.func 98) [] [], .junk, .junk, .junk, .junk, .junk, .int .i64 p.2, .int .i64 s], hl := fun s => [], ex := fun r => match r with | .inl r => .ret | .inr r => .exit 0, otl := fun r => match r with | .inl r => [.junk, .junk, .junk, .junk, .int .i64 r] | .inr r => [.junk], ohl := fun r => match r with | .inl r => [] | .inr r => [] }
def slices_IndexFunc___float32_float32__impl_areFinite_1_loop0_ext : St → Option ((List Nat × Int) × (Int) × List Nat) := fun S => match (S.tm 0).unK, (S.tm 1).unK, (S.tm 7).unK, (S.tm 8).unK with
  | .vslc 1 (.flt .f32) q0, .func (.func 98) [] [], .int .i64 q1, .int .i64 q2 => some ((q0, q1), q2, [])
  | _, _, _, _ => none
def slices_IndexFunc___float32_float32__impl_areFinite_1_loop0_post (p : List Nat × Int) (r : (Int) ⊕ (Unit)) : DT (Ex × St) := .ask (isL r) (.leaf (.ret, LSt [.junk, .junk, .junk, .junk, .int .i64 ((leftD r))] [])) (.leaf (.exit 0, LSt [.junk] []))
def slices_IndexFunc___float32_float32__impl_areFinite_1_loop0 (p : List Nat × Int) (s : Int) : (Int) ⊕ (Unit) := loopVal (slices_IndexFunc___float32_float32__impl_areFinite_1_loop0_step p) s
def slices_IndexFunc___float32_float32__impl_areFinite_1_loop0_ends (p : List Nat × Int) (s : Int) : Bool := loopEnds (slices_IndexFunc___float32_float32__impl_areFinite_1_loop0_step p) s
def slices_IndexFunc___float32_float32__impl_areFinite_1_loop0_F : LoopF := loopF slices_IndexFunc___float32_float32__impl_areFinite_1_loop0_step slices_IndexFunc___float32_float32__impl_areFinite_1_loop0_ext slices_IndexFunc___float32_float32__impl_areFinite_1_loop0_post
set_option maxRecDepth 100000 in
theorem slices_IndexFunc___float32_float32__impl_areFinite_1_loop0_hext : ∀ S p s fl, slices_IndexFunc___float32_float32__impl_areFinite_1_loop0_ext S = some (p, s, fl) → Norm S fl ((slices_IndexFunc___float32_float32__impl_areFinite_1_loop0_L p).tl s) ((slices_IndexFunc___float32_float32__impl_areFinite_1_loop0_L p).hl s) (slices_IndexFunc___float32_float32__impl_areFinite_1_loop0_L p).gl := by
  intro S p s fl h
  unfold slices_IndexFunc___float32_float32__impl_areFinite_1_loop0_ext at h
  (repeat' split at h) <;> first
    | (cases h; constructor <;> simp_all [slices_IndexFunc___float32_float32__impl_areFinite_1_loop0_L, keepT, keepH, rens, renH, PV.ren, Blk.ren, fOf, lget, nodup, natIn, lenEq, gtm, PV.unK])
    | cases h
set_option maxRecDepth 100000 in
theorem slices_IndexFunc___float32_float32__impl_areFinite_1_loop0_hpost : ∀ p r e S', (slices_IndexFunc___float32_float32__impl_areFinite_1_loop0_post p r).get = some (e, S') → e = (slices_IndexFunc___float32_float32__impl_areFinite_1_loop0_L p).ex r ∧ S' = LSt ((slices_IndexFunc___float32_float32__impl_areFinite_1_loop0_L p).otl r) ((slices_IndexFunc___float32_float32__impl_areFinite_1_loop0_L p).ohl r) ((slices_IndexFunc___float32_float32__impl_areFinite_1_loop0_L p).ogl r) := by
  intro p r e S' h
  unfold slices_IndexFunc___float32_float32__impl_areFinite_1_loop0_post at h
  cases r <;> (simp only [isL, DT.get, Option.some.injEq, Prod.mk.injEq] at h; exact ⟨h.1.symm, h.2.symm⟩)

def slices_IndexFunc___float32_float32__impl_areFinite_1_loops : Nat → Option LoopF := loopTab [(2, slices_IndexFunc___float32_float32__impl_areFinite_1_loop0_F)]
set_option maxRecDepth 100000 in
theorem slices_IndexFunc___float32_float32__impl_areFinite_1_l0 : LoopOK Try.prog ⟨gam [(98, impl_areFinite_1_c)], tab, 19, slices_IndexFunc___float32_float32__impl_areFinite_1_loops⟩ (lp Try.f124 0) :=
  loopOK_some (F := slices_IndexFunc___float32_float32__impl_areFinite_1_loop0_F) (by kernel_rfl) (loopF_ok (E := ⟨gam [(98, impl_areFinite_1_c)], tab, 19, slices_IndexFunc___float32_float32__impl_areFinite_1_loops⟩) ⟨gam_cons impl_areFinite_1_ok (gam_nil), tab_ok, by kernel_rfl⟩ (fuel := 100000) (loopsOK_list (l := []) (by kernel_rfl) trivial) (L := slices_IndexFunc___float32_float32__impl_areFinite_1_loop0_L) (fun p s => by unfold AgreeL; exact ⟨by kernel_rfl, by kernel_rfl⟩) (fun _ r h => by cases r <;> exact Ex.noConfusion h) slices_IndexFunc___float32_float32__impl_areFinite_1_loop0_hext slices_IndexFunc___float32_float32__impl_areFinite_1_loop0_hpost)
/-- slices.IndexFunc[[]float32,float32] -/
def slices_IndexFunc___float32_float32__impl_areFinite_1_tree (a0 : List Nat) : DT (Int) :=
  let x0 := ((List.length a0 : Nat) : Int);
  .need ((slices_IndexFunc___float32_float32__impl_areFinite_1_loop0_ends (a0, x0) 0)) (
  let x1 := slices_IndexFunc___float32_float32__impl_areFinite_1_loop0 (a0, x0) 0;
  .ask ((isL x1))
  (
   .leaf ((leftD x1)))
  (
   .leaf (-1)))
def slices_IndexFunc___float32_float32__impl_areFinite_1 (a0 : List Nat) : Int := (slices_IndexFunc___float32_float32__impl_areFinite_1_tree a0).val
def slices_IndexFunc___float32_float32__impl_areFinite_1_need (a0 : List Nat) : Bool := (slices_IndexFunc___float32_float32__impl_areFinite_1_tree a0).ok
def slices_IndexFunc___float32_float32__impl_areFinite_1_mk (p : Int) : Ret := ⟨.int .i64 p, []⟩
def slices_IndexFunc___float32_float32__impl_areFinite_1_c0 : Con := fun args => match args with
  | [.vslc 1 (.flt .f32) a0, .func (.func 98) [] []] => some (.need (slices_IndexFunc___float32_float32__impl_areFinite_1_need a0) (.leaf (slices_IndexFunc___float32_float32__impl_areFinite_1_mk (slices_IndexFunc___float32_float32__impl_areFinite_1 a0))))
  | _ => none
set_option maxRecDepth 100000 in
theorem slices_IndexFunc___float32_float32__impl_areFinite_1_ok0 : FunOK Try.prog 124 slices_IndexFunc___float32_float32__impl_areFinite_1_c0.fn := by
  refine con_ok (Γ := gam [(98, impl_areFinite_1_c)]) (gam_cons impl_areFinite_1_ok (gam_nil)) tab_ok (by kernel_rfl) Try.func124 (by kernel_rfl) (by kernel_rfl) Try.ntmps124 Try.results124 (loops := slices_IndexFunc___float32_float32__impl_areFinite_1_loops) (loopsOK_list (l := [lp Try.f124 0]) (by kernel_rfl) ⟨slices_IndexFunc___float32_float32__impl_areFinite_1_l0, trivial⟩) 100000 fun args t h => ?_
  unfold slices_IndexFunc___float32_float32__impl_areFinite_1_c0 at h
  split at h
  · rename_i a0
    cases h
    exact ⟨rfl, agree_need (mk := slices_IndexFunc___float32_float32__impl_areFinite_1_mk) (t := slices_IndexFunc___float32_float32__impl_areFinite_1_tree a0) (by unfold Agree; kernel_rfl)⟩
  · cases h
def slices_IndexFunc___float32_float32__impl_areFinite_1_c : Con := fun args => slices_IndexFunc___float32_float32__impl_areFinite_1_c0 (norms 0 [.slc (.flt .f32), .none] args)
set_option maxRecDepth 100000 in
theorem slices_IndexFunc___float32_float32__impl_areFinite_1_ok : FunOK Try.prog 124 slices_IndexFunc___float32_float32__impl_areFinite_1_c.fn := con_norm [.slc (.flt .f32), .none] slices_IndexFunc___float32_float32__impl_areFinite_1_ok0

/-- slices.ContainsFunc[[]float32,float32] -/
def slices_ContainsFunc___float32_float32__impl_areFinite_1_tree (a0 : List Nat) : DT (Bool) :=
  .need ((slices_IndexFunc___float32_float32__impl_areFinite_1_need a0 )) (
  let x0 := slices_IndexFunc___float32_float32__impl_areFinite_1 a0 ;
  let x1 := decide (x0 ≥ 0);
  .leaf x1)
def slices_ContainsFunc___float32_float32__impl_areFinite_1 (a0 : List Nat) : Bool := (slices_ContainsFunc___float32_float32__impl_areFinite_1_tree a0).val
def slices_ContainsFunc___float32_float32__impl_areFinite_1_need (a0 : List Nat) : Bool := (slices_ContainsFunc___float32_float32__impl_areFinite_1_tree a0).ok
def slices_ContainsFunc___float32_float32__impl_areFinite_1_mk (p : Bool) : Ret := ⟨.bool p, []⟩
def slices_ContainsFunc___float32_float32__impl_areFinite_1_c0 : Con := fun args => match args with
  | [.vslc 1 (.flt .f32) a0, .func (.func 98) [] []] => some (.need (slices_ContainsFunc___float32_float32__impl_areFinite_1_need a0) (.leaf (slices_ContainsFunc___float32_float32__impl_areFinite_1_mk (slices_ContainsFunc___float32_float32__impl_areFinite_1 a0))))
  | _ => none
set_option maxRecDepth 100000 in
theorem slices_ContainsFunc___float32_float32__impl_areFinite_1_ok0 : FunOK Try.prog 97 slices_ContainsFunc___float32_float32__impl_areFinite_1_c0.fn := by
  refine con_ok (Γ := gam [(124, slices_IndexFunc___float32_float32__impl_areFinite_1_c)]) (gam_cons slices_IndexFunc___float32_float32__impl_areFinite_1_ok (gam_nil)) tab_ok (by kernel_rfl) Try.func97 (by kernel_rfl) (by kernel_rfl) Try.ntmps97 Try.results97 (loopsOK_none rfl _) 100000 fun args t h => ?_
  unfold slices_ContainsFunc___float32_float32__impl_areFinite_1_c0 at h
  split at h
  · rename_i a0
    cases h
    exact ⟨rfl, agree_need (mk := slices_ContainsFunc___float32_float32__impl_areFinite_1_mk) (t := slices_ContainsFunc___float32_float32__impl_areFinite_1_tree a0) (by unfold Agree; kernel_rfl)⟩
  · cases h
def slices_ContainsFunc___float32_float32__impl_areFinite_1_c : Con := fun args => slices_ContainsFunc___float32_float32__impl_areFinite_1_c0 (norms 0 [.slc (.flt .f32), .none] args)
set_option maxRecDepth 100000 in
theorem slices_ContainsFunc___float32_float32__impl_areFinite_1_ok : FunOK Try.prog 97 slices_ContainsFunc___float32_float32__impl_areFinite_1_c.fn := con_norm [.slc (.flt .f32), .none] slices_ContainsFunc___float32_float32__impl_areFinite_1_ok0

/-- loop.example/g01284/impl.areFinite -/
def impl_areFinite_tree (a0 : List Nat) : DT (Bool) :=
  .need ((slices_ContainsFunc___float32_float32__impl_areFinite_1_need a0 )) (
  let x0 := slices_ContainsFunc___float32_float32__impl_areFinite_1 a0 ;
  .leaf (!x0))
def impl_areFinite (a0 : List Nat) : Bool := (impl_areFinite_tree a0).val
def impl_areFinite_need (a0 : List Nat) : Bool := (impl_areFinite_tree a0).ok
def impl_areFinite_mk (p : Bool) : Ret := ⟨.bool p, []⟩
def impl_areFinite_c0 : Con := fun args => match args with
  | [.vslc 1 (.flt .f32) a0] => some (.need (impl_areFinite_need a0) (.leaf (impl_areFinite_mk (impl_areFinite a0))))
  | _ => none
set_option maxRecDepth 100000 in
theorem impl_areFinite_ok0 : FunOK Try.prog 62 impl_areFinite_c0.fn := by
  refine con_ok (Γ := gam [(97, slices_ContainsFunc___float32_float32__impl_areFinite_1_c)]) (gam_cons slices_ContainsFunc___float32_float32__impl_areFinite_1_ok (gam_nil)) tab_ok (by kernel_rfl) Try.func62 (by kernel_rfl) (by kernel_rfl) Try.ntmps62 Try.results62 (loopsOK_none rfl _) 100000 fun args t h => ?_
  unfold impl_areFinite_c0 at h
  split at h
  · rename_i a0
    cases h
    exact ⟨rfl, agree_need (mk := impl_areFinite_mk) (t := impl_areFinite_tree a0) (by unfold Agree; kernel_rfl)⟩
  · cases h
def impl_areFinite_c : Con := fun args => impl_areFinite_c0 (norms 0 [.slc (.flt .f32)] args)
set_option maxRecDepth 100000 in
theorem impl_areFinite_ok : FunOK Try.prog 62 impl_areFinite_c.fn := con_norm [.slc (.flt .f32)] impl_areFinite_ok0

/-- loop.example/g01284/impl.isFiniteVector -/
def impl_isFiniteVector_tree (a0 : Vec) : DT (Bool) :=
  let x0 := impl_Vector_numbers (⟨a0.X, a0.Y, a0.Z⟩ : Vec);
  .need ((impl_areFinite_need x0)) (
  let x1 := impl_areFinite x0;
  .leaf x1)
def impl_isFiniteVector (a0 : Vec) : Bool := (impl_isFiniteVector_tree a0).val
def impl_isFiniteVector_need (a0 : Vec) : Bool := (impl_isFiniteVector_tree a0).ok
def impl_isFiniteVector_mk (p : Bool) : Ret := ⟨.bool p, []⟩
def impl_isFiniteVector_c : Con := fun args => match args with
  | [.agg [.flt .f32 a0_0, .flt .f32 a0_1, .flt .f32 a0_2]] => some (.need (impl_isFiniteVector_need (⟨a0_0, a0_1, a0_2⟩ : Vec)) (.leaf (impl_isFiniteVector_mk (impl_isFiniteVector (⟨a0_0, a0_1, a0_2⟩ : Vec)))))
  | _ => none
set_option maxRecDepth 100000 in
theorem impl_isFiniteVector_ok : FunOK Try.prog 51 impl_isFiniteVector_c.fn := by
  refine con_ok (Γ := gam [(91, impl_Vector_numbers_c), (62, impl_areFinite_c)]) (gam_cons impl_Vector_numbers_ok (gam_cons impl_areFinite_ok (gam_nil))) tab_ok (by kernel_rfl) Try.func51 (by kernel_rfl) (by kernel_rfl) Try.ntmps51 Try.results51 (loopsOK_none rfl _) 100000 fun args t h => ?_
  unfold impl_isFiniteVector_c at h
  split at h
  · rename_i a0_0 a0_1 a0_2
    cases h
    exact ⟨rfl, agree_need (mk := impl_isFiniteVector_mk) (t := impl_isFiniteVector_tree (⟨a0_0, a0_1, a0_2⟩ : Vec)) (by unfold Agree; kernel_rfl)⟩
  · cases h

/-- loop.example/g01284/impl.AreBodies$1 -/
def impl_AreBodies_1_tree (a0 : Body) : DT (Bool) :=
  .need ((impl_isFiniteVector_need (⟨a0.At.X, a0.At.Y, a0.At.Z⟩ : Vec))) (
  let x0 := impl_isFiniteVector (⟨a0.At.X, a0.At.Y, a0.At.Z⟩ : Vec);
  .ask (!x0)
  (
   .leaf true)
  (
   .need ((impl_isFiniteVector_need (⟨a0.Speed.X, a0.Speed.Y, a0.Speed.Z⟩ : Vec))) (
   let x1 := impl_isFiniteVector (⟨a0.Speed.X, a0.Speed.Y, a0.Speed.Z⟩ : Vec);
   .ask (!x1)
   (
    .leaf true)
   (
    .need ((impl_IsFinite_need a0.Mass)) (
    let x2 := impl_IsFinite a0.Mass;
    .ask (!x2)
    (
     .leaf true)
    (
     let x3 := flt .f32 a0.Mass 0;
     .leaf x3))))))
def impl_AreBodies_1 (a0 : Body) : Bool := (impl_AreBodies_1_tree a0).val
def impl_AreBodies_1_need (a0 : Body) : Bool := (impl_AreBodies_1_tree a0).ok
def impl_AreBodies_1_mk (p : Bool) : Ret := ⟨.bool p, []⟩
def impl_AreBodies_1_c : Con := fun args => match args with
  | [.agg [.flt .f32 a0_0, .flt .f32 a0_1, .flt .f32 a0_2, .flt .f32 a0_3, .flt .f32 a0_4, .flt .f32 a0_5, .flt .f32 a0_6]] => some (.need (impl_AreBodies_1_need (⟨⟨a0_0, a0_1, a0_2⟩, ⟨a0_3, a0_4, a0_5⟩, a0_6⟩ : Body)) (.leaf (impl_AreBodies_1_mk (impl_AreBodies_1 (⟨⟨a0_0, a0_1, a0_2⟩, ⟨a0_3, a0_4, a0_5⟩, a0_6⟩ : Body)))))
  | _ => none
set_option maxRecDepth 100000 in
theorem impl_AreBodies_1_ok : FunOK Try.prog 100 impl_AreBodies_1_c.fn := by
  refine con_ok (Γ := gam [(51, impl_isFiniteVector_c), (43, impl_IsFinite_c)]) (gam_cons impl_isFiniteVector_ok (gam_cons impl_IsFinite_ok (gam_nil))) tab_ok (by kernel_rfl) Try.func100 (by kernel_rfl) (by kernel_rfl) Try.ntmps100 Try.results100 (loopsOK_none rfl _) 100000 fun args t h => ?_
  unfold impl_AreBodies_1_c at h
  split at h
  · rename_i a0_0 a0_1 a0_2 a0_3 a0_4 a0_5 a0_6
    cases h
    exact ⟨rfl, agree_need (mk := impl_AreBodies_1_mk) (t := impl_AreBodies_1_tree (⟨⟨a0_0, a0_1, a0_2⟩, ⟨a0_3, a0_4, a0_5⟩, a0_6⟩ : Body)) (by unfold Agree; kernel_rfl)⟩
  · cases h

/-- a loop of slices_IndexFunc___impl_Body_impl_Body__impl_AreBodies_1 -/
def slices_IndexFunc___impl_Body_impl_Body__impl_AreBodies_1_loop0_step (p : List Body × Int) (s : Int) : Round (Int) ((Int) ⊕ (Unit)) :=
  let x0 := decide (s < p.2);
  .ask x0
  (
   .need ((decide (0 ≤ s) && decide (s < ((List.length p.1 : Nat) : Int)))) (
   let x1 := List.getD p.1 (Int.toNat s) default;
   .need ((impl_AreBodies_1_need (⟨⟨x1.At.X, x1.At.Y, x1.At.Z⟩, ⟨x1.Speed.X, x1.Speed.Y, x1.Speed.Z⟩, x1.Mass⟩ : Body))) (
   let x2 := impl_AreBodies_1 (⟨⟨x1.At.X, x1.At.Y, x1.At.Z⟩, ⟨x1.Speed.X, x1.Speed.Y, x1.Speed.Z⟩, x1.Mass⟩ : Body);
   .ask x2
   (
    .leaf (.inr (.inl s), []))
   (
    let x3 := IntKind.wrap .i64 (s + 1);
    .leaf (.inl x3, [])))))
  (
   .leaf (.inr (.inr ()), []))
def slices_IndexFunc___impl_Body_impl_Body__impl_AreBodies_1_loop0_L (p : List Body × Int) : LoopS (Int) ((Int) ⊕ (Unit)) := { tl := fun s => [.vslc 1 .body p.1, .func (.func 100) [] [], .junk, .junk, .junk, .junk, .junk, .int .i64 p.2, .int .i64 s], hl := fun s => [], ex := fun r => match r with | .inl r => .ret | .inr r => .exit 0, otl := fun r => match r with | .inl r => [.junk, .junk, .junk, .junk, .int .i64 r] | .inr r => [.junk], ohl := fun r => match r with | .inl r => [] | .inr r => [] }
def slices_IndexFunc___impl_Body_impl_Body__impl_AreBodies_1_loop0_ext : St → Option ((List Body × Int) × (Int) × List Nat) := fun S => match (S.tm 0).unK, (S.tm 1).unK, (S.tm 7).unK, (S.tm 8).unK with
  | .vslc 1 .body q0, .func (.func 100) [] [], .int .i64 q1, .int .i64 q2 => some ((q0, q1), q2, [])
  | _, _, _, _ => none
def slices_IndexFunc___impl_Body_impl_Body__impl_AreBodies_1_loop0_post (p : List Body × Int) (r : (Int) ⊕ (Unit)) : DT (Ex × St) := .ask (isL r) (.leaf (.ret, LSt [.junk, .junk, .junk, .junk, .int .i64 ((leftD r))] [])) (.leaf (.exit 0, LSt [.junk] []))
def slices_IndexFunc___impl_Body_impl_Body__impl_AreBodies_1_loop0 (p : List Body × Int) (s : Int) : (Int) ⊕ (Unit) := loopVal (slices_IndexFunc___impl_Body_impl_Body__impl_AreBodies_1_loop0_step p) s
def slices_IndexFunc___impl_Body_impl_Body__impl_AreBodies_1_loop0_ends (p : List Body × Int) (s : Int) : Bool := loopEnds (slices_IndexFunc___impl_Body_impl_Body__impl_AreBodies_1_loop0_step p) s
def slices_IndexFunc___impl_Body_impl_Body__impl_AreBodies_1_loop0_F : LoopF := loopF slices_IndexFunc___impl_Body_impl_Body__impl_AreBodies_1_loop0_step slices_IndexFunc___impl_Body_impl_Body__impl_AreBodies_1_loop0_ext slices_IndexFunc___impl_Body_impl_Body__impl_AreBodies_1_loop0_post
set_option maxRecDepth 100000 in
theorem slices_IndexFunc___impl_Body_impl_Body__impl_AreBodies_1_loop0_hext : ∀ S p s fl, slices_IndexFunc___impl_Body_impl_Body__impl_AreBodies_1_loop0_ext S = some (p, s, fl) → Norm S fl ((slices_IndexFunc___impl_Body_impl_Body__impl_AreBodies_1_loop0_L p).tl s) ((slices_IndexFunc___impl_Body_impl_Body__impl_AreBodies_1_loop0_L p).hl s) (slices_IndexFunc___impl_Body_impl_Body__impl_AreBodies_1_loop0_L p).gl := by
  intro S p s fl h
  unfold slices_IndexFunc___impl_Body_impl_Body__impl_AreBodies_1_loop0_ext at h
  (repeat' split at h) <;> first
    | (cases h; constructor <;> simp_all [slices_IndexFunc___impl_Body_impl_Body__impl_AreBodies_1_loop0_L, keepT, keepH, rens, renH, PV.ren, Blk.ren, fOf, lget, nodup, natIn, lenEq, gtm, PV.unK])
    | cases h
set_option maxRecDepth 100000 in
theorem slices_IndexFunc___impl_Body_impl_Body__impl_AreBodies_1_loop0_hpost : ∀ p r e S', (slices_IndexFunc___impl_Body_impl_Body__impl_AreBodies_1_loop0_post p r).get = some (e, S') → e = (slices_IndexFunc___impl_Body_impl_Body__impl_AreBodies_1_loop0_L p).ex r ∧ S' = LSt ((slices_IndexFunc___impl_Body_impl_Body__impl_AreBodies_1_loop0_L p).otl r) ((slices_IndexFunc___impl_Body_impl_Body__impl_AreBodies_1_loop0_L p).ohl r) ((slices_IndexFunc___impl_Body_impl_Body__impl_AreBodies_1_loop0_L p).ogl r) := by
  intro p r e S' h
  unfold slices_IndexFunc___impl_Body_impl_Body__impl_AreBodies_1_loop0_post at h
  cases r <;> (simp only [isL, DT.get, Option.some.injEq, Prod.mk.injEq] at h; exact ⟨h.1.symm, h.2.symm⟩)

def slices_IndexFunc___impl_Body_impl_Body__impl_AreBodies_1_loops : Nat → Option LoopF := loopTab [(2, slices_IndexFunc___impl_Body_impl_Body__impl_AreBodies_1_loop0_F)]
set_option maxRecDepth 100000 in
theorem slices_IndexFunc___impl_Body_impl_Body__impl_AreBodies_1_l0 : LoopOK Try.prog ⟨gam [(100, impl_AreBodies_1_c)], tab, 19, slices_IndexFunc___impl_Body_impl_Body__impl_AreBodies_1_loops⟩ (lp Try.f125 0) :=
  loopOK_some (F := slices_IndexFunc___impl_Body_impl_Body__impl_AreBodies_1_loop0_F) (by kernel_rfl) (loopF_ok (E := ⟨gam [(100, impl_AreBodies_1_c)], tab, 19, slices_IndexFunc___impl_Body_impl_Body__impl_AreBodies_1_loops⟩) ⟨gam_cons impl_AreBodies_1_ok (gam_nil), tab_ok, by kernel_rfl⟩ (fuel := 100000) (loopsOK_list (l := []) (by kernel_rfl) trivial) (L := slices_IndexFunc___impl_Body_impl_Body__impl_AreBodies_1_loop0_L) (fun p s => by unfold AgreeL; exact ⟨by kernel_rfl, by kernel_rfl⟩) (fun _ r h => by cases r <;> exact Ex.noConfusion h) slices_IndexFunc___impl_Body_impl_Body__impl_AreBodies_1_loop0_hext slices_IndexFunc___impl_Body_impl_Body__impl_AreBodies_1_loop0_hpost)
/-- slices.IndexFunc[[]loop.example/g01284/impl.Body,loop.example/g01284/impl.Body] -/
def slices_IndexFunc___impl_Body_impl_Body__impl_AreBodies_1_tree (a0 : List Body) : DT (Int) :=
  let x0 := ((List.length a0 : Nat) : Int);
  .need ((slices_IndexFunc___impl_Body_impl_Body__impl_AreBodies_1_loop0_ends (a0, x0) 0)) (
  let x1 := slices_IndexFunc___impl_Body_impl_Body__impl_AreBodies_1_loop0 (a0, x0) 0;
  .ask ((isL x1))
  (
   .leaf ((leftD x1)))
  (
   .leaf (-1)))
def slices_IndexFunc___impl_Body_impl_Body__impl_AreBodies_1 (a0 : List Body) : Int := (slices_IndexFunc___impl_Body_impl_Body__impl_AreBodies_1_tree a0).val
def slices_IndexFunc___impl_Body_impl_Body__impl_AreBodies_1_need (a0 : List Body) : Bool := (slices_IndexFunc___impl_Body_impl_Body__impl_AreBodies_1_tree a0).ok
def slices_IndexFunc___impl_Body_impl_Body__impl_AreBodies_1_mk (p : Int) : Ret := ⟨.int .i64 p, []⟩
def slices_IndexFunc___impl_Body_impl_Body__impl_AreBodies_1_c0 : Con := fun args => match args with
  | [.vslc 1 .body a0, .func (.func 100) [] []] => some (.need (slices_IndexFunc___impl_Body_impl_Body__impl_AreBodies_1_need a0) (.leaf (slices_IndexFunc___impl_Body_impl_Body__impl_AreBodies_1_mk (slices_IndexFunc___impl_Body_impl_Body__impl_AreBodies_1 a0))))
  | _ => none
set_option maxRecDepth 100000 in
theorem slices_IndexFunc___impl_Body_impl_Body__impl_AreBodies_1_ok0 : FunOK Try.prog 125 slices_IndexFunc___impl_Body_impl_Body__impl_AreBodies_1_c0.fn := by
  refine con_ok (Γ := gam [(100, impl_AreBodies_1_c)]) (gam_cons impl_AreBodies_1_ok (gam_nil)) tab_ok (by kernel_rfl) Try.func125 (by kernel_rfl) (by kernel_rfl) Try.ntmps125 Try.results125 (loops := slices_IndexFunc___impl_Body_impl_Body__impl_AreBodies_1_loops) (loopsOK_list (l := [lp Try.f125 0]) (by kernel_rfl) ⟨slices_IndexFunc___impl_Body_impl_Body__impl_AreBodies_1_l0, trivial⟩) 100000 fun args t h => ?_
  unfold slices_IndexFunc___impl_Body_impl_Body__impl_AreBodies_1_c0 at h
  split at h
  · rename_i a0
    cases h
    exact ⟨rfl, agree_need (mk := slices_IndexFunc___impl_Body_impl_Body__impl_AreBodies_1_mk) (t := slices_IndexFunc___impl_Body_impl_Body__impl_AreBodies_1_tree a0) (by unfold Agree; kernel_rfl)⟩
  · cases h
def slices_IndexFunc___impl_Body_impl_Body__impl_AreBodies_1_c : Con := fun args => slices_IndexFunc___impl_Body_impl_Body__impl_AreBodies_1_c0 (norms 0 [.slc .body, .none] args)
set_option maxRecDepth 100000 in
theorem slices_IndexFunc___impl_Body_impl_Body__impl_AreBodies_1_ok : FunOK Try.prog 125 slices_IndexFunc___impl_Body_impl_Body__impl_AreBodies_1_c.fn := con_norm [.slc .body, .none] slices_IndexFunc___impl_Body_impl_Body__impl_AreBodies_1_ok0

/-- slices.ContainsFunc[[]loop.example/g01284/impl.Body,loop.example/g01284/impl.Body] -/
def slices_ContainsFunc___impl_Body_impl_Body__impl_AreBodies_1_tree (a0 : List Body) : DT (Bool) :=
  .need ((slices_IndexFunc___impl_Body_impl_Body__impl_AreBodies_1_need a0 )) (
  let x0 := slices_IndexFunc___impl_Body_impl_Body__impl_AreBodies_1 a0 ;
  let x1 := decide (x0 ≥ 0);
  .leaf x1)
def slices_ContainsFunc___impl_Body_impl_Body__impl_AreBodies_1 (a0 : List Body) : Bool := (slices_ContainsFunc___impl_Body_impl_Body__impl_AreBodies_1_tree a0).val
def slices_ContainsFunc___impl_Body_impl_Body__impl_AreBodies_1_need (a0 : List Body) : Bool := (slices_ContainsFunc___impl_Body_impl_Body__impl_AreBodies_1_tree a0).ok
def slices_ContainsFunc___impl_Body_impl_Body__impl_AreBodies_1_mk (p : Bool) : Ret := ⟨.bool p, []⟩
def slices_ContainsFunc___impl_Body_impl_Body__impl_AreBodies_1_c0 : Con := fun args => match args with
  | [.vslc 1 .body a0, .func (.func 100) [] []] => some (.need (slices_ContainsFunc___impl_Body_impl_Body__impl_AreBodies_1_need a0) (.leaf (slices_ContainsFunc___impl_Body_impl_Body__impl_AreBodies_1_mk (slices_ContainsFunc___impl_Body_impl_Body__impl_AreBodies_1 a0))))
  | _ => none
set_option maxRecDepth 100000 in
theorem slices_ContainsFunc___impl_Body_impl_Body__impl_AreBodies_1_ok0 : FunOK Try.prog 99 slices_ContainsFunc___impl_Body_impl_Body__impl_AreBodies_1_c0.fn := by
  refine con_ok (Γ := gam [(125, slices_IndexFunc___impl_Body_impl_Body__impl_AreBodies_1_c)]) (gam_cons slices_IndexFunc___impl_Body_impl_Body__impl_AreBodies_1_ok (gam_nil)) tab_ok (by kernel_rfl) Try.func99 (by kernel_rfl) (by kernel_rfl) Try.ntmps99 Try.results99 (loopsOK_none rfl _) 100000 fun args t h => ?_
  unfold slices_ContainsFunc___impl_Body_impl_Body__impl_AreBodies_1_c0 at h
  split at h
  · rename_i a0
    cases h
    exact ⟨rfl, agree_need (mk := slices_ContainsFunc___impl_Body_impl_Body__impl_AreBodies_1_mk) (t := slices_ContainsFunc___impl_Body_impl_Body__impl_AreBodies_1_tree a0) (by unfold Agree; kernel_rfl)⟩
  · cases h
def slices_ContainsFunc___impl_Body_impl_Body__impl_AreBodies_1_c : Con := fun args => slices_ContainsFunc___impl_Body_impl_Body__impl_AreBodies_1_c0 (norms 0 [.slc .body, .none] args)
set_option maxRecDepth 100000 in
theorem slices_ContainsFunc___impl_Body_impl_Body__impl_AreBodies_1_ok : FunOK Try.prog 99 slices_ContainsFunc___impl_Body_impl_Body__impl_AreBodies_1_c.fn := con_norm [.slc .body, .none] slices_ContainsFunc___impl_Body_impl_Body__impl_AreBodies_1_ok0

/-- loop.example/g01284/impl.AreBodies -/
def impl_AreBodies_tree (a0 : List Body) : DT (Bool) :=
  let x0 := ((List.length a0 : Nat) : Int);
  let x1 := decide (x0 ≤ 16);
  .ask x1
  (
   .need ((slices_ContainsFunc___impl_Body_impl_Body__impl_AreBodies_1_need a0 )) (
   let x2 := slices_ContainsFunc___impl_Body_impl_Body__impl_AreBodies_1 a0 ;
   .leaf (!x2)))
  (
   .leaf false)
def impl_AreBodies (a0 : List Body) : Bool := (impl_AreBodies_tree a0).val
def impl_AreBodies_need (a0 : List Body) : Bool := (impl_AreBodies_tree a0).ok
def impl_AreBodies_mk (p : Bool) : Ret := ⟨.bool p, []⟩
def impl_AreBodies_c0 : Con := fun args => match args with
  | [.vslc 1 .body a0] => some (.need (impl_AreBodies_need a0) (.leaf (impl_AreBodies_mk (impl_AreBodies a0))))
  | _ => none
set_option maxRecDepth 100000 in
theorem impl_AreBodies_ok0 : FunOK Try.prog 64 impl_AreBodies_c0.fn := by
  refine con_ok (Γ := gam [(99, slices_ContainsFunc___impl_Body_impl_Body__impl_AreBodies_1_c)]) (gam_cons slices_ContainsFunc___impl_Body_impl_Body__impl_AreBodies_1_ok (gam_nil)) tab_ok (by kernel_rfl) Try.func64 (by kernel_rfl) (by kernel_rfl) Try.ntmps64 Try.results64 (loopsOK_none rfl _) 100000 fun args t h => ?_
  unfold impl_AreBodies_c0 at h
  split at h
  · rename_i a0
    cases h
    exact ⟨rfl, agree_need (mk := impl_AreBodies_mk) (t := impl_AreBodies_tree a0) (by unfold Agree; kernel_rfl)⟩
  · cases h
def impl_AreBodies_c : Con := fun args => impl_AreBodies_c0 (norms 0 [.slc .body] args)
set_option maxRecDepth 100000 in
theorem impl_AreBodies_ok : FunOK Try.prog 64 impl_AreBodies_c.fn := con_norm [.slc .body] impl_AreBodies_ok0

/-- loop.example/g01284/impl.isCore -/
def impl_isCore_tree (a0 : Nat) : DT (Bool) :=
  .need ((impl_IsFinite_need a0)) (
  let x0 := impl_IsFinite a0;
  .ask x0
  (
   let x1 := fge .f32 a0 0;
   .leaf x1)
  (
   .leaf false))
def impl_isCore (a0 : Nat) : Bool := (impl_isCore_tree a0).val
def impl_isCore_need (a0 : Nat) : Bool := (impl_isCore_tree a0).ok
def impl_isCore_mk (p : Bool) : Ret := ⟨.bool p, []⟩
def impl_isCore_c : Con := fun args => match args with
  | [.flt .f32 a0] => some (.need (impl_isCore_need a0) (.leaf (impl_isCore_mk (impl_isCore a0))))
  | _ => none
set_option maxRecDepth 100000 in
theorem impl_isCore_ok : FunOK Try.prog 65 impl_isCore_c.fn := by
  refine con_ok (Γ := gam [(43, impl_IsFinite_c)]) (gam_cons impl_IsFinite_ok (gam_nil)) tab_ok (by kernel_rfl) Try.func65 (by kernel_rfl) (by kernel_rfl) Try.ntmps65 Try.results65 (loopsOK_none rfl _) 100000 fun args t h => ?_
  unfold impl_isCore_c at h
  split at h
  · rename_i a0
    cases h
    exact ⟨rfl, agree_need (mk := impl_isCore_mk) (t := impl_isCore_tree a0) (by unfold Agree; kernel_rfl)⟩
  · cases h

/-- loop.example/g01284/impl.LessVectors -/
def impl_LessVectors_tree (a0 : Vec) (a1 : Vec) : DT (Vec) :=
  let x0 := fsub .f32 a0.X a1.X;
  let x1 := fsub .f32 a0.Y a1.Y;
  let x2 := fsub .f32 a0.Z a1.Z;
  .leaf ((⟨x0, x1, x2⟩ : Vec))
def impl_LessVectors (a0 : Vec) (a1 : Vec) : Vec := (impl_LessVectors_tree a0 a1).val
def impl_LessVectors_mk (p : Vec) : Ret := ⟨.agg [.flt .f32 p.X, .flt .f32 p.Y, .flt .f32 p.Z], []⟩
def impl_LessVectors_c : Con := fun args => match args with
  | [.agg [.flt .f32 a0_0, .flt .f32 a0_1, .flt .f32 a0_2], .agg [.flt .f32 a1_0, .flt .f32 a1_1, .flt .f32 a1_2]] => some (.leaf (impl_LessVectors_mk (impl_LessVectors (⟨a0_0, a0_1, a0_2⟩ : Vec) (⟨a1_0, a1_1, a1_2⟩ : Vec))))
  | _ => none
set_option maxRecDepth 100000 in
theorem impl_LessVectors_ok : FunOK Try.prog 61 impl_LessVectors_c.fn := by
  refine con_ok (Γ := gam []) (gam_nil) tab_ok (by kernel_rfl) Try.func61 (by kernel_rfl) (by kernel_rfl) Try.ntmps61 Try.results61 (loopsOK_none rfl _) 100000 fun args t h => ?_
  unfold impl_LessVectors_c at h
  split at h
  · rename_i a0_0 a0_1 a0_2 a1_0 a1_1 a1_2
    cases h
    exact ⟨rfl, agree_tot (mk := impl_LessVectors_mk) (t := impl_LessVectors_tree (⟨a0_0, a0_1, a0_2⟩ : Vec) (⟨a1_0, a1_1, a1_2⟩ : Vec)) (by unfold Agree; kernel_rfl) (by kernel_rfl)⟩
  · cases h

/-- loop.example/g01284/impl.InnerOf -/
def impl_InnerOf_tree (a0 : Vec) (a1 : Vec) : DT (Nat) :=
  let x0 := fmul .f32 a0.X a1.X;
  let x1 := fmul .f32 a0.Y a1.Y;
  let x2 := fadd .f32 x0 x1;
  let x3 := fmul .f32 a0.Z a1.Z;
  let x4 := fadd .f32 x2 x3;
  .leaf x4
def impl_InnerOf (a0 : Vec) (a1 : Vec) : Nat := (impl_InnerOf_tree a0 a1).val
def impl_InnerOf_mk (p : Nat) : Ret := ⟨.flt .f32 p, []⟩
def impl_InnerOf_c : Con := fun args => match args with
  | [.agg [.flt .f32 a0_0, .flt .f32 a0_1, .flt .f32 a0_2], .agg [.flt .f32 a1_0, .flt .f32 a1_1, .flt .f32 a1_2]] => some (.leaf (impl_InnerOf_mk (impl_InnerOf (⟨a0_0, a0_1, a0_2⟩ : Vec) (⟨a1_0, a1_1, a1_2⟩ : Vec))))
  | _ => none
set_option maxRecDepth 100000 in
theorem impl_InnerOf_ok : FunOK Try.prog 60 impl_InnerOf_c.fn := by
  refine con_ok (Γ := gam []) (gam_nil) tab_ok (by kernel_rfl) Try.func60 (by kernel_rfl) (by kernel_rfl) Try.ntmps60 Try.results60 (loopsOK_none rfl _) 100000 fun args t h => ?_
  unfold impl_InnerOf_c at h
  split at h
  · rename_i a0_0 a0_1 a0_2 a1_0 a1_1 a1_2
    cases h
    exact ⟨rfl, agree_tot (mk := impl_InnerOf_mk) (t := impl_InnerOf_tree (⟨a0_0, a0_1, a0_2⟩ : Vec) (⟨a1_0, a1_1, a1_2⟩ : Vec)) (by unfold Agree; kernel_rfl) (by kernel_rfl)⟩
  · cases h

/-- loop.example/g01284/impl.softened -/
def impl_softened_tree (a0 : Vec) (a1 : Nat) : DT (Nat) :=
  let x0 := impl_InnerOf (⟨a0.X, a0.Y, a0.Z⟩ : Vec) (⟨a0.X, a0.Y, a0.Z⟩ : Vec);
  let x1 := fmul .f32 a1 a1;
  let x2 := fadd .f32 x0 x1;
  .leaf x2
def impl_softened (a0 : Vec) (a1 : Nat) : Nat := (impl_softened_tree a0 a1).val
def impl_softened_mk (p : Nat) : Ret := ⟨.flt .f32 p, []⟩
def impl_softened_c : Con := fun args => match args with
  | [.agg [.flt .f32 a0_0, .flt .f32 a0_1, .flt .f32 a0_2], .flt .f32 a1] => some (.leaf (impl_softened_mk (impl_softened (⟨a0_0, a0_1, a0_2⟩ : Vec) a1)))
  | _ => none
set_option maxRecDepth 100000 in
theorem impl_softened_ok : FunOK Try.prog 102 impl_softened_c.fn := by
  refine con_ok (Γ := gam [(60, impl_InnerOf_c)]) (gam_cons impl_InnerOf_ok (gam_nil)) tab_ok (by kernel_rfl) Try.func102 (by kernel_rfl) (by kernel_rfl) Try.ntmps102 Try.results102 (loopsOK_none rfl _) 100000 fun args t h => ?_
  unfold impl_softened_c at h
  split at h
  · rename_i a0_0 a0_1 a0_2 a1
    cases h
    exact ⟨rfl, agree_tot (mk := impl_softened_mk) (t := impl_softened_tree (⟨a0_0, a0_1, a0_2⟩ : Vec) a1) (by unfold Agree; kernel_rfl) (by kernel_rfl)⟩
  · cases h

/-- math.Sqrt -/
def math_Sqrt_tree (a0 : Nat) : DT (Nat) :=
  let x0 := fsqrt a0;
  .leaf x0
def math_Sqrt (a0 : Nat) : Nat := (math_Sqrt_tree a0).val
def math_Sqrt_mk (p : Nat) : Ret := ⟨.flt .f64 p, []⟩
def math_Sqrt_c : Con := fun args => match args with
  | [.flt .f64 a0] => some (.leaf (math_Sqrt_mk (math_Sqrt a0)))
  | _ => none
set_option maxRecDepth 100000 in
theorem math_Sqrt_ok : FunOK Try.prog 87 math_Sqrt_c.fn := by
  refine con_ok (Γ := gam [(115, math_sqrt_c)]) (gam_cons math_sqrt_ok (gam_nil)) tab_ok (by kernel_rfl) Try.func87 (by kernel_rfl) (by kernel_rfl) Try.ntmps87 Try.results87 (loopsOK_none rfl _) 100000 fun args t h => ?_
  unfold math_Sqrt_c at h
  split at h
  · rename_i a0
    cases h
    exact ⟨rfl, agree_tot (mk := math_Sqrt_mk) (t := math_Sqrt_tree a0) (by unfold Agree; kernel_rfl) (by kernel_rfl)⟩
  · cases h

/-- loop.example/g01284/impl.RootNumber -/
def impl_RootNumber_tree (a0 : Nat) : DT (Nat) :=
  .need ((fconvOk .f32 a0 .f64)) (
  let x0 := fconv .f32 a0 .f64;
  let x1 := math_Sqrt x0;
  .need ((fconvOk .f64 x1 .f32)) (
  let x2 := fconv .f64 x1 .f32;
  .leaf x2))
def impl_RootNumber (a0 : Nat) : Nat := (impl_RootNumber_tree a0).val
def impl_RootNumber_need (a0 : Nat) : Bool := (impl_RootNumber_tree a0).ok
def impl_RootNumber_mk (p : Nat) : Ret := ⟨.flt .f32 p, []⟩
def impl_RootNumber_c : Con := fun args => match args with
  | [.flt .f32 a0] => some (.need (impl_RootNumber_need a0) (.leaf (impl_RootNumber_mk (impl_RootNumber a0))))
  | _ => none
set_option maxRecDepth 100000 in
theorem impl_RootNumber_ok : FunOK Try.prog 53 impl_RootNumber_c.fn := by
  refine con_ok (Γ := gam [(87, math_Sqrt_c)]) (gam_cons math_Sqrt_ok (gam_nil)) tab_ok (by kernel_rfl) Try.func53 (by kernel_rfl) (by kernel_rfl) Try.ntmps53 Try.results53 (loopsOK_none rfl _) 100000 fun args t h => ?_
  unfold impl_RootNumber_c at h
  split at h
  · rename_i a0
    cases h
    exact ⟨rfl, agree_need (mk := impl_RootNumber_mk) (t := impl_RootNumber_tree a0) (by unfold Agree; kernel_rfl)⟩
  · cases h

/-- loop.example/g01284/impl.ScaleVector -/
def impl_ScaleVector_tree (a0 : Vec) (a1 : Nat) : DT (Vec) :=
  let x0 := fmul .f32 a0.X a1;
  let x1 := fmul .f32 a0.Y a1;
  let x2 := fmul .f32 a0.Z a1;
  .leaf ((⟨x0, x1, x2⟩ : Vec))
def impl_ScaleVector (a0 : Vec) (a1 : Nat) : Vec := (impl_ScaleVector_tree a0 a1).val
def impl_ScaleVector_mk (p : Vec) : Ret := ⟨.agg [.flt .f32 p.X, .flt .f32 p.Y, .flt .f32 p.Z], []⟩
def impl_ScaleVector_c : Con := fun args => match args with
  | [.agg [.flt .f32 a0_0, .flt .f32 a0_1, .flt .f32 a0_2], .flt .f32 a1] => some (.leaf (impl_ScaleVector_mk (impl_ScaleVector (⟨a0_0, a0_1, a0_2⟩ : Vec) a1)))
  | _ => none
set_option maxRecDepth 100000 in
theorem impl_ScaleVector_ok : FunOK Try.prog 21 impl_ScaleVector_c.fn := by
  refine con_ok (Γ := gam []) (gam_nil) tab_ok (by kernel_rfl) Try.func21 (by kernel_rfl) (by kernel_rfl) Try.ntmps21 Try.results21 (loopsOK_none rfl _) 100000 fun args t h => ?_
  unfold impl_ScaleVector_c at h
  split at h
  · rename_i a0_0 a0_1 a0_2 a1
    cases h
    exact ⟨rfl, agree_tot (mk := impl_ScaleVector_mk) (t := impl_ScaleVector_tree (⟨a0_0, a0_1, a0_2⟩ : Vec) a1) (by unfold Agree; kernel_rfl) (by kernel_rfl)⟩
  · cases h

/-- loop.example/g01284/impl.AddVectors -/
def impl_AddVectors_tree (a0 : Vec) (a1 : Vec) : DT (Vec) :=
  let x0 := fadd .f32 a0.X a1.X;
  let x1 := fadd .f32 a0.Y a1.Y;
  let x2 := fadd .f32 a0.Z a1.Z;
  .leaf ((⟨x0, x1, x2⟩ : Vec))
def impl_AddVectors (a0 : Vec) (a1 : Vec) : Vec := (impl_AddVectors_tree a0 a1).val
def impl_AddVectors_mk (p : Vec) : Ret := ⟨.agg [.flt .f32 p.X, .flt .f32 p.Y, .flt .f32 p.Z], []⟩
def impl_AddVectors_c : Con := fun args => match args with
  | [.agg [.flt .f32 a0_0, .flt .f32 a0_1, .flt .f32 a0_2], .agg [.flt .f32 a1_0, .flt .f32 a1_1, .flt .f32 a1_2]] => some (.leaf (impl_AddVectors_mk (impl_AddVectors (⟨a0_0, a0_1, a0_2⟩ : Vec) (⟨a1_0, a1_1, a1_2⟩ : Vec))))
  | _ => none
set_option maxRecDepth 100000 in
theorem impl_AddVectors_ok : FunOK Try.prog 28 impl_AddVectors_c.fn := by
  refine con_ok (Γ := gam []) (gam_nil) tab_ok (by kernel_rfl) Try.func28 (by kernel_rfl) (by kernel_rfl) Try.ntmps28 Try.results28 (loopsOK_none rfl _) 100000 fun args t h => ?_
  unfold impl_AddVectors_c at h
  split at h
  · rename_i a0_0 a0_1 a0_2 a1_0 a1_1 a1_2
    cases h
    exact ⟨rfl, agree_tot (mk := impl_AddVectors_mk) (t := impl_AddVectors_tree (⟨a0_0, a0_1, a0_2⟩ : Vec) (⟨a1_0, a1_1, a1_2⟩ : Vec)) (by unfold Agree; kernel_rfl) (by kernel_rfl)⟩
  · cases h

/-- a loop of impl_pull -/
def impl_pull_loop0_step (p : Int × Nat × List Body × Int × Nat × Nat × Nat × Nat × Nat × Nat) (s : Int × Nat × Nat × Nat) : Round (Int × Nat × Nat × Nat) (Nat × Nat × Nat) :=
  let x0 := decide (s.1 < p.2.2.2.1);
  .ask x0
  (
   .need ((decide (0 ≤ s.1) && decide (s.1 < ((List.length p.2.2.1 : Nat) : Int)))) (
   let x1 := List.getD p.2.2.1 (Int.toNat s.1) default;
   let x2 := impl_LessVectors (⟨x1.At.X, x1.At.Y, x1.At.Z⟩ : Vec) (⟨p.2.2.2.2.1, p.2.2.2.2.2.1, p.2.2.2.2.2.2.1⟩ : Vec);
   let x3 := impl_softened (⟨x2.X, x2.Y, x2.Z⟩ : Vec) p.2.1;
   let x4 := (s.1 != p.1);
   .ask x4
   (
    let x5 := fgt .f32 x3 0;
    .ask x5
    (
     .need ((impl_RootNumber_need x3)) (
     let x6 := impl_RootNumber x3;
     let x7 := fmul .f32 x3 x6;
     let x8 := fdiv .f32 x1.Mass x7;
     let x9 := impl_ScaleVector (⟨x2.X, x2.Y, x2.Z⟩ : Vec) x8;
     let x10 := impl_AddVectors (⟨s.2.1, s.2.2.1, s.2.2.2⟩ : Vec) (⟨x9.X, x9.Y, x9.Z⟩ : Vec);
     let x11 := IntKind.wrap .i64 (s.1 + 1);
     .leaf (.inl (x11, x10.X, x10.Y, x10.Z), [0, 1, 2])))
    (
     let x6 := IntKind.wrap .i64 (s.1 + 1);
     .leaf (.inl (x6, s.2.1, s.2.2.1, s.2.2.2), [0, 1, 2])))
   (
    let x5 := IntKind.wrap .i64 (s.1 + 1);
    .leaf (.inl (x5, s.2.1, s.2.2.1, s.2.2.2), [0, 1, 2]))))
  (
   .leaf (.inr (s.2.1, s.2.2.1, s.2.2.2), [1, 2]))
def impl_pull_loop0_L (p : Int × Nat × List Body × Int × Nat × Nat × Nat × Nat × Nat × Nat) : LoopS (Int × Nat × Nat × Nat) (Nat × Nat × Nat) := { tl := fun s => [.junk, .int .i64 p.1, .junk, .flt .f32 p.2.1, .junk, .junk, .ptr 0 0, .junk, .ptr 1 0, .ptr 2 0, .junk, .junk, .junk, .junk, .junk, .vslc 1 .body p.2.2.1, .int .i64 p.2.2.2.1, .int .i64 s.1], hl := fun s => [some (.cells [.flt .f32 p.2.2.2.2.1, .flt .f32 p.2.2.2.2.2.1, .flt .f32 p.2.2.2.2.2.2.1]), some (.cells [.flt .f32 p.2.2.2.2.2.2.2.1, .flt .f32 p.2.2.2.2.2.2.2.2.1, .flt .f32 p.2.2.2.2.2.2.2.2.2]), some (.cells [.flt .f32 s.2.1, .flt .f32 s.2.2.1, .flt .f32 s.2.2.2])], ex := fun r => .exit 0, otl := fun r => [.junk, .junk, .junk, .junk, .junk, .junk, .junk, .junk, .ptr 0 0, .ptr 1 0], ohl := fun r => [some (.cells [.flt .f32 p.2.2.2.2.2.2.2.1, .flt .f32 p.2.2.2.2.2.2.2.2.1, .flt .f32 p.2.2.2.2.2.2.2.2.2]), some (.cells [.flt .f32 r.1, .flt .f32 r.2.1, .flt .f32 r.2.2])] }
def impl_pull_loop0_ext : St → Option ((Int × Nat × List Body × Int × Nat × Nat × Nat × Nat × Nat × Nat) × (Int × Nat × Nat × Nat) × List Nat) := fun S => match (S.tm 1).unK, (S.tm 3).unK, (S.tm 6).unK, (S.tm 8).unK, (S.tm 9).unK, (S.tm 15).unK, (S.tm 16).unK, (S.tm 17).unK with
  | .int .i64 q0, .flt .f32 q1, .ptr i0 0, .ptr i1 0, .ptr i2 0, .vslc 1 .body q2, .int .i64 q3, .int .i64 q4 => (match S.hp i0 with
    | some (.cells [.flt .f32 q5, .flt .f32 q6, .flt .f32 q7]) => (match S.hp i1 with
    | some (.cells [.flt .f32 q8, .flt .f32 q9, .flt .f32 q10]) => (match S.hp i2 with
    | some (.cells [.flt .f32 q11, .flt .f32 q12, .flt .f32 q13]) => (if nodup [i0, i1, i2] = true then some ((q0, q1, q2, q3, q5, q6, q7, q8, q9, q10), (q4, q11, q12, q13), [i0, i1, i2]) else none)
    | _ => none)
    | _ => none)
    | _ => none)
  | _, _, _, _, _, _, _, _ => none
def impl_pull_loop0_post (p : Int × Nat × List Body × Int × Nat × Nat × Nat × Nat × Nat × Nat) (r : Nat × Nat × Nat) : DT (Ex × St) := .leaf (.exit 0, LSt [.junk, .junk, .junk, .junk, .junk, .junk, .junk, .junk, .ptr 0 0, .ptr 1 0] [some (.cells [.flt .f32 p.2.2.2.2.2.2.2.1, .flt .f32 p.2.2.2.2.2.2.2.2.1, .flt .f32 p.2.2.2.2.2.2.2.2.2]), some (.cells [.flt .f32 r.1, .flt .f32 r.2.1, .flt .f32 r.2.2])])
def impl_pull_loop0 (p : Int × Nat × List Body × Int × Nat × Nat × Nat × Nat × Nat × Nat) (s : Int × Nat × Nat × Nat) : Nat × Nat × Nat := loopVal (impl_pull_loop0_step p) s
def impl_pull_loop0_ends (p : Int × Nat × List Body × Int × Nat × Nat × Nat × Nat × Nat × Nat) (s : Int × Nat × Nat × Nat) : Bool := loopEnds (impl_pull_loop0_step p) s
def impl_pull_loop0_F : LoopF := loopF impl_pull_loop0_step impl_pull_loop0_ext impl_pull_loop0_post
set_option maxRecDepth 100000 in
theorem impl_pull_loop0_hext : ∀ S p s fl, impl_pull_loop0_ext S = some (p, s, fl) → Norm S fl ((impl_pull_loop0_L p).tl s) ((impl_pull_loop0_L p).hl s) (impl_pull_loop0_L p).gl := by
  intro S p s fl h
  unfold impl_pull_loop0_ext at h
  (repeat' split at h) <;> first
    | (cases h; constructor <;> simp_all [impl_pull_loop0_L, keepT, keepH, rens, renH, PV.ren, Blk.ren, fOf, lget, nodup, natIn, lenEq, gtm, PV.unK])
    | cases h
set_option maxRecDepth 100000 in
theorem impl_pull_loop0_hpost : ∀ p r e S', (impl_pull_loop0_post p r).get = some (e, S') → e = (impl_pull_loop0_L p).ex r ∧ S' = LSt ((impl_pull_loop0_L p).otl r) ((impl_pull_loop0_L p).ohl r) ((impl_pull_loop0_L p).ogl r) := by
  intro p r e S' h
  unfold impl_pull_loop0_post at h
  simp only [DT.get, Option.some.injEq, Prod.mk.injEq] at h; exact ⟨h.1.symm, h.2.symm⟩

def impl_pull_loops : Nat → Option LoopF := loopTab [(3, impl_pull_loop0_F)]
set_option maxRecDepth 100000 in
theorem impl_pull_l0 : LoopOK Try.prog ⟨gam [(61, impl_LessVectors_c), (102, impl_softened_c), (53, impl_RootNumber_c), (21, impl_ScaleVector_c), (28, impl_AddVectors_c)], tab, 49, impl_pull_loops⟩ (lp Try.f71 0) :=
  loopOK_some (F := impl_pull_loop0_F) (by kernel_rfl) (loopF_ok (E := ⟨gam [(61, impl_LessVectors_c), (102, impl_softened_c), (53, impl_RootNumber_c), (21, impl_ScaleVector_c), (28, impl_AddVectors_c)], tab, 49, impl_pull_loops⟩) ⟨gam_cons impl_LessVectors_ok (gam_cons impl_softened_ok (gam_cons impl_RootNumber_ok (gam_cons impl_ScaleVector_ok (gam_cons impl_AddVectors_ok (gam_nil))))), tab_ok, by kernel_rfl⟩ (fuel := 100000) (loopsOK_list (l := []) (by kernel_rfl) trivial) (L := impl_pull_loop0_L) (fun p s => by unfold AgreeL; exact ⟨by kernel_rfl, by kernel_rfl⟩) (fun _ _ h => Ex.noConfusion h) impl_pull_loop0_hext impl_pull_loop0_hpost)
/-- loop.example/g01284/impl.pull -/
def impl_pull_tree (a0 : List Body) (a1 : Int) (a2 : Vec) (a3 : Nat) : DT (Vec) :=
  let x0 := ((List.length a0 : Nat) : Int);
  .need ((impl_pull_loop0_ends (a1, a3, a0, x0, a2.X, a2.Y, a2.Z, 0, 0, 0) (0, 0, 0, 0))) (
  let x1 := impl_pull_loop0 (a1, a3, a0, x0, a2.X, a2.Y, a2.Z, 0, 0, 0) (0, 0, 0, 0);
  .leaf ((⟨x1.1, x1.2.1, x1.2.2⟩ : Vec)))
def impl_pull (a0 : List Body) (a1 : Int) (a2 : Vec) (a3 : Nat) : Vec := (impl_pull_tree a0 a1 a2 a3).val
def impl_pull_need (a0 : List Body) (a1 : Int) (a2 : Vec) (a3 : Nat) : Bool := (impl_pull_tree a0 a1 a2 a3).ok
def impl_pull_mk (p : Vec) : Ret := ⟨.agg [.flt .f32 p.X, .flt .f32 p.Y, .flt .f32 p.Z], []⟩
def impl_pull_c0 : Con := fun args => match args with
  | [.vslc 1 .body a0, .int .i64 a1, .agg [.flt .f32 a2_0, .flt .f32 a2_1, .flt .f32 a2_2], .flt .f32 a3] => some (.need (impl_pull_need a0 a1 (⟨a2_0, a2_1, a2_2⟩ : Vec) a3) (.leaf (impl_pull_mk (impl_pull a0 a1 (⟨a2_0, a2_1, a2_2⟩ : Vec) a3))))
  | _ => none
set_option maxRecDepth 100000 in
theorem impl_pull_ok0 : FunOK Try.prog 71 impl_pull_c0.fn := by
  refine con_ok (Γ := gam [(61, impl_LessVectors_c), (102, impl_softened_c), (53, impl_RootNumber_c), (21, impl_ScaleVector_c), (28, impl_AddVectors_c)]) (gam_cons impl_LessVectors_ok (gam_cons impl_softened_ok (gam_cons impl_RootNumber_ok (gam_cons impl_ScaleVector_ok (gam_cons impl_AddVectors_ok (gam_nil)))))) tab_ok (by kernel_rfl) Try.func71 (by kernel_rfl) (by kernel_rfl) Try.ntmps71 Try.results71 (loops := impl_pull_loops) (loopsOK_list (l := [lp Try.f71 0]) (by kernel_rfl) ⟨impl_pull_l0, trivial⟩) 100000 fun args t h => ?_
  unfold impl_pull_c0 at h
  split at h
  · rename_i a0 a1 a2_0 a2_1 a2_2 a3
    cases h
    exact ⟨rfl, agree_need (mk := impl_pull_mk) (t := impl_pull_tree a0 a1 (⟨a2_0, a2_1, a2_2⟩ : Vec) a3) (by unfold Agree; kernel_rfl)⟩
  · cases h
def impl_pull_c : Con := fun args => impl_pull_c0 (norms 0 [.slc .body, .none, .none, .none] args)
set_option maxRecDepth 100000 in
theorem impl_pull_ok : FunOK Try.prog 71 impl_pull_c.fn := con_norm [.slc .body, .none, .none, .none] impl_pull_ok0

/-- a loop of impl_pulls -/
def impl_pulls_loop0_step (p : List Body × Nat × List Body × Int) (s : Int × List Vec) : Round (Int × List Vec) ((Unit) ⊕ (List Vec)) :=
  let x0 := decide (s.1 < p.2.2.2);
  .ask x0
  (
   .need ((decide (0 ≤ s.1) && decide (s.1 < ((List.length p.2.2.1 : Nat) : Int)))) (
   let x1 := List.getD p.2.2.1 (Int.toNat s.1) default;
   .need ((impl_pull_need p.1 s.1 (⟨x1.At.X, x1.At.Y, x1.At.Z⟩ : Vec) p.2.1)) (
   let x2 := impl_pull p.1 s.1 (⟨x1.At.X, x1.At.Y, x1.At.Z⟩ : Vec) p.2.1;
   .need ((impl_isFiniteVector_need (⟨x2.X, x2.Y, x2.Z⟩ : Vec))) (
   let x3 := impl_isFiniteVector (⟨x2.X, x2.Y, x2.Z⟩ : Vec);
   .ask (!x3)
   (
    .leaf (.inr (.inl ()), []))
   (
    .need ((decide ((List.length s.2 + List.length [(⟨x2.X, x2.Y, x2.Z⟩ : Vec)]) * 12 ≤ 140737488355328) && decide (List.length s.2 + List.length [(⟨x2.X, x2.Y, x2.Z⟩ : Vec)] ≤ 9223372036854775807))) (
    let x4 := s.2 ++ [(⟨x2.X, x2.Y, x2.Z⟩ : Vec)];
    let x5 := IntKind.wrap .i64 (s.1 + 1);
    .leaf (.inl (x5, x4), [169])))))))
  (
   .leaf (.inr (.inr s.2), [0]))
def impl_pulls_loop0_L (p : List Body × Nat × List Body × Int) : LoopS (Int × List Vec) ((Unit) ⊕ (List Vec)) := { tl := fun s => [.vslc 1 .body p.1, .flt .f32 p.2.1, .junk, .junk, .junk, .junk, .own 0, .junk, .junk, .junk, .junk, .vslc 1 .body p.2.2.1, .int .i64 p.2.2.2, .int .i64 s.1], hl := fun s => [some (.typed 49 .vec s.2)], ex := fun r => match r with | .inl r => .ret | .inr r => .exit 0, otl := fun r => match r with | .inl r => [.junk, .junk, .junk, .junk, .nils, .bool false] | .inr r => [.junk, .junk, .junk, .junk, .junk, .junk, .own 0], ohl := fun r => match r with | .inl r => [] | .inr r => [some (.typed 49 .vec r)] }
def impl_pulls_loop0_ext : St → Option ((List Body × Nat × List Body × Int) × (Int × List Vec) × List Nat) := fun S => match (S.tm 0).unK, (S.tm 1).unK, (S.tm 6).unK, (S.tm 11).unK, (S.tm 12).unK, (S.tm 13).unK with
  | .vslc 1 .body q0, .flt .f32 q1, .own i0, .vslc 1 .body q2, .int .i64 q3, .int .i64 q4 => (match S.hp i0 with
    | some (.typed 49 .vec q5) => some ((q0, q1, q2, q3), (q4, q5), [i0])
    | _ => none)
  | _, _, _, _, _, _ => none
def impl_pulls_loop0_post (p : List Body × Nat × List Body × Int) (r : (Unit) ⊕ (List Vec)) : DT (Ex × St) := .ask (isL r) (.leaf (.ret, LSt [.junk, .junk, .junk, .junk, .nils, .bool false] [])) (.leaf (.exit 0, LSt [.junk, .junk, .junk, .junk, .junk, .junk, .own 0] [some (.typed 49 .vec ((rightD r)))]))
def impl_pulls_loop0 (p : List Body × Nat × List Body × Int) (s : Int × List Vec) : (Unit) ⊕ (List Vec) := loopVal (impl_pulls_loop0_step p) s
def impl_pulls_loop0_ends (p : List Body × Nat × List Body × Int) (s : Int × List Vec) : Bool := loopEnds (impl_pulls_loop0_step p) s
def impl_pulls_loop0_F : LoopF := loopF impl_pulls_loop0_step impl_pulls_loop0_ext impl_pulls_loop0_post
set_option maxRecDepth 100000 in
theorem impl_pulls_loop0_hext : ∀ S p s fl, impl_pulls_loop0_ext S = some (p, s, fl) → Norm S fl ((impl_pulls_loop0_L p).tl s) ((impl_pulls_loop0_L p).hl s) (impl_pulls_loop0_L p).gl := by
  intro S p s fl h
  unfold impl_pulls_loop0_ext at h
  (repeat' split at h) <;> first
    | (cases h; constructor <;> simp_all [impl_pulls_loop0_L, keepT, keepH, rens, renH, PV.ren, Blk.ren, fOf, lget, nodup, natIn, lenEq, gtm, PV.unK])
    | cases h
set_option maxRecDepth 100000 in
theorem impl_pulls_loop0_hpost : ∀ p r e S', (impl_pulls_loop0_post p r).get = some (e, S') → e = (impl_pulls_loop0_L p).ex r ∧ S' = LSt ((impl_pulls_loop0_L p).otl r) ((impl_pulls_loop0_L p).ohl r) ((impl_pulls_loop0_L p).ogl r) := by
  intro p r e S' h
  unfold impl_pulls_loop0_post at h
  cases r <;> (simp only [isL, DT.get, Option.some.injEq, Prod.mk.injEq] at h; exact ⟨h.1.symm, h.2.symm⟩)

def impl_pulls_loops : Nat → Option LoopF := loopTab [(3, impl_pulls_loop0_F)]
set_option maxRecDepth 100000 in
theorem impl_pulls_l0 : LoopOK Try.prog ⟨gam [(71, impl_pull_c), (51, impl_isFiniteVector_c)], tab, 33, impl_pulls_loops⟩ (lp Try.f66 0) :=
  loopOK_some (F := impl_pulls_loop0_F) (by kernel_rfl) (loopF_ok (E := ⟨gam [(71, impl_pull_c), (51, impl_isFiniteVector_c)], tab, 33, impl_pulls_loops⟩) ⟨gam_cons impl_pull_ok (gam_cons impl_isFiniteVector_ok (gam_nil)), tab_ok, by kernel_rfl⟩ (fuel := 100000) (loopsOK_list (l := []) (by kernel_rfl) trivial) (L := impl_pulls_loop0_L) (fun p s => by unfold AgreeL; exact ⟨by kernel_rfl, by kernel_rfl⟩) (fun _ r h => by cases r <;> exact Ex.noConfusion h) impl_pulls_loop0_hext impl_pulls_loop0_hpost)
/-- loop.example/g01284/impl.pulls -/
def impl_pulls_tree (a0 : List Body) (a1 : Nat) : DT ((Unit) ⊕ (List Vec)) :=
  let x0 := ((List.length a0 : Nat) : Int);
  .need ((impl_pulls_loop0_ends (a0, a1, a0, x0) (0, []))) (
  let x1 := impl_pulls_loop0 (a0, a1, a0, x0) (0, []);
  .ask ((isL x1))
  (
   .leaf (.inl ()))
  (
   .leaf (.inr ((rightD x1)))))
def impl_pulls (a0 : List Body) (a1 : Nat) : (Unit) ⊕ (List Vec) := (impl_pulls_tree a0 a1).val
def impl_pulls_need (a0 : List Body) (a1 : Nat) : Bool := (impl_pulls_tree a0 a1).ok
def impl_pulls_mk0 (p : Unit) : Ret := ⟨.tup [.nils, .bool false], []⟩
def impl_pulls_mk1 (p : List Vec) : Ret := ⟨.tup [.own 0, .bool true], [.typed 49 .vec p]⟩
def impl_pulls_mk : (Unit) ⊕ (List Vec) → Ret := fun v => match v with
  | (.inl p) => impl_pulls_mk0 p
  | (.inr p) => impl_pulls_mk1 p
def impl_pulls_forms (v : (Unit) ⊕ (List Vec)) : DT Ret := .ask (isL v) (.leaf (impl_pulls_mk0 (leftD v))) (.leaf (impl_pulls_mk1 (rightD v)))
theorem impl_pulls_forms_get : ∀ v, (impl_pulls_forms v).get = some (impl_pulls_mk v) := by
  intro v
  rcases v with v | v <;> rfl
def impl_pulls_c0 : Con := fun args => match args with
  | [.vslc 1 .body a0, .flt .f32 a1] => some (.need (impl_pulls_need a0 a1) (impl_pulls_forms (impl_pulls a0 a1)))
  | _ => none
set_option maxRecDepth 100000 in
theorem impl_pulls_ok0 : FunOK Try.prog 66 impl_pulls_c0.fn := by
  refine con_ok (Γ := gam [(71, impl_pull_c), (51, impl_isFiniteVector_c)]) (gam_cons impl_pull_ok (gam_cons impl_isFiniteVector_ok (gam_nil))) tab_ok (by kernel_rfl) Try.func66 (by kernel_rfl) (by kernel_rfl) Try.ntmps66 Try.results66 (loops := impl_pulls_loops) (loopsOK_list (l := [lp Try.f66 0]) (by kernel_rfl) ⟨impl_pulls_l0, trivial⟩) 100000 fun args t h => ?_
  unfold impl_pulls_c0 at h
  split at h
  · rename_i a0 a1
    cases h
    exact ⟨rfl, agree_forms (mk := impl_pulls_mk) (t := impl_pulls_tree a0 a1) (by unfold Agree; kernel_rfl) (fun h => h) (impl_pulls_forms_get _)⟩
  · cases h
def impl_pulls_c : Con := fun args => impl_pulls_c0 (norms 0 [.slc .body, .none] args)
set_option maxRecDepth 100000 in
theorem impl_pulls_ok : FunOK Try.prog 66 impl_pulls_c.fn := con_norm [.slc .body, .none] impl_pulls_ok0

/-- loop.example/g01284/impl.PullsOf -/
def impl_PullsOf_tree (a0 : List Body) (a1 : Nat) : DT ((Unit) ⊕ (List Vec)) :=
  .need ((impl_AreBodies_need a0)) (
  let x0 := impl_AreBodies a0;
  .ask (!x0)
  (
   .leaf (.inl ()))
  (
   .need ((impl_isCore_need a1)) (
   let x1 := impl_isCore a1;
   .ask (!x1)
   (
    .leaf (.inl ()))
   (
    .need ((impl_pulls_need a0 a1)) (
    let x2 := impl_pulls a0 a1;
    .ask ((isL x2))
    (
     .leaf (.inl ()))
    (
     .leaf (.inr ((rightD x2)))))))))
def impl_PullsOf (a0 : List Body) (a1 : Nat) : (Unit) ⊕ (List Vec) := (impl_PullsOf_tree a0 a1).val
def impl_PullsOf_need (a0 : List Body) (a1 : Nat) : Bool := (impl_PullsOf_tree a0 a1).ok
def impl_PullsOf_mk0 (p : Unit) : Ret := ⟨.tup [.nils, .bool false], []⟩
def impl_PullsOf_mk1 (p : List Vec) : Ret := ⟨.tup [.own 0, .bool true], [.typed 49 .vec p]⟩
def impl_PullsOf_mk : (Unit) ⊕ (List Vec) → Ret := fun v => match v with
  | (.inl p) => impl_PullsOf_mk0 p
  | (.inr p) => impl_PullsOf_mk1 p
def impl_PullsOf_forms (v : (Unit) ⊕ (List Vec)) : DT Ret := .ask (isL v) (.leaf (impl_PullsOf_mk0 (leftD v))) (.leaf (impl_PullsOf_mk1 (rightD v)))
theorem impl_PullsOf_forms_get : ∀ v, (impl_PullsOf_forms v).get = some (impl_PullsOf_mk v) := by
  intro v
  rcases v with v | v <;> rfl
def impl_PullsOf_c0 : Con := fun args => match args with
  | [.vslc 1 .body a0, .flt .f32 a1] => some (.need (impl_PullsOf_need a0 a1) (impl_PullsOf_forms (impl_PullsOf a0 a1)))
  | _ => none
set_option maxRecDepth 100000 in
theorem impl_PullsOf_ok0 : FunOK Try.prog 24 impl_PullsOf_c0.fn := by
  refine con_ok (Γ := gam [(64, impl_AreBodies_c), (65, impl_isCore_c), (66, impl_pulls_c)]) (gam_cons impl_AreBodies_ok (gam_cons impl_isCore_ok (gam_cons impl_pulls_ok (gam_nil)))) tab_ok (by kernel_rfl) Try.func24 (by kernel_rfl) (by kernel_rfl) Try.ntmps24 Try.results24 (loopsOK_none rfl _) 100000 fun args t h => ?_
  unfold impl_PullsOf_c0 at h
  split at h
  · rename_i a0 a1
    cases h
    exact ⟨rfl, agree_forms (mk := impl_PullsOf_mk) (t := impl_PullsOf_tree a0 a1) (by unfold Agree; kernel_rfl) (fun h => h) (impl_PullsOf_forms_get _)⟩
  · cases h
def impl_PullsOf_c : Con := fun args => impl_PullsOf_c0 (norms 0 [.slc .body, .none] args)
set_option maxRecDepth 100000 in
theorem impl_PullsOf_ok : FunOK Try.prog 24 impl_PullsOf_c.fn := con_norm [.slc .body, .none] impl_PullsOf_ok0

/-- loop.example/g01284/spec.R8Vector -/
def spec_R8Vector_tree (a0 : List Int) (a1 : Int) : DT (Vec) :=
  .skip (
  let x0 := IntKind.wrap .i64 (a1 + 0);
  let x1 := ((List.length a0 : Nat) : Int);
  let x2 := decide (x0 < x1);
  .ask x2
  (
   let x3 := IntKind.wrap .i64 (a1 + 0);
   .need ((decide (0 ≤ x3) && decide (x3 < ((List.length a0 : Nat) : Int)))) (
   let x4 := List.getD a0 (Int.toNat x3) default;
   let x5 := IntKind.wrap .i64 x4;
   .skip (
   let x6 := Int.tmod x5 9;
   let x7 := IntKind.wrap .i64 (x6 - 4);
   let x8 := fofInt .f32 x7;
   .skip (
   .need ((decide (0 < List.length [1065353216, 1073741824, 3212836864]))) (
   let x9 := List.set [1065353216, 1073741824, 3212836864] 0 x8;
   .skip (
   let x10 := IntKind.wrap .i64 (a1 + 1);
   let x11 := ((List.length a0 : Nat) : Int);
   let x12 := decide (x10 < x11);
   .ask x12
   (
    let x13 := IntKind.wrap .i64 (a1 + 1);
    .need ((decide (0 ≤ x13) && decide (x13 < ((List.length a0 : Nat) : Int)))) (
    let x14 := List.getD a0 (Int.toNat x13) default;
    let x15 := IntKind.wrap .i64 x14;
    .skip (
    let x16 := Int.tmod x15 9;
    let x17 := IntKind.wrap .i64 (x16 - 4);
    let x18 := fofInt .f32 x17;
    .skip (
    .need ((decide (1 < List.length x9))) (
    let x19 := List.set x9 1 x18;
    .skip (
    let x20 := IntKind.wrap .i64 (a1 + 2);
    let x21 := ((List.length a0 : Nat) : Int);
    let x22 := decide (x20 < x21);
    .ask x22
    (
     let x23 := IntKind.wrap .i64 (a1 + 2);
     .need ((decide (0 ≤ x23) && decide (x23 < ((List.length a0 : Nat) : Int)))) (
     let x24 := List.getD a0 (Int.toNat x23) default;
     let x25 := IntKind.wrap .i64 x24;
     .skip (
     let x26 := Int.tmod x25 9;
     let x27 := IntKind.wrap .i64 (x26 - 4);
     let x28 := fofInt .f32 x27;
     .skip (
     .need ((decide (2 < List.length x19))) (
     let x29 := List.set x19 2 x28;
     .skip (
     .skip (
     .need ((decide (0 < List.length x29))) (
     let x30 := List.getD x29 0 default;
     .skip (
     .need ((decide (1 < List.length x29))) (
     let x31 := List.getD x29 1 default;
     .skip (
     .need ((decide (2 < List.length x29))) (
     let x32 := List.getD x29 2 default;
     .leaf ((⟨x30, x31, x32⟩ : Vec))))))))))))))
    (
     .skip (
     .skip (
     .need ((decide (0 < List.length x19))) (
     let x23 := List.getD x19 0 default;
     .skip (
     .need ((decide (1 < List.length x19))) (
     let x24 := List.getD x19 1 default;
     .skip (
     .need ((decide (2 < List.length x19))) (
     let x25 := List.getD x19 2 default;
     .leaf ((⟨x23, x24, x25⟩ : Vec))))))))))))))))
   (
    .skip (
    let x13 := IntKind.wrap .i64 (a1 + 2);
    let x14 := ((List.length a0 : Nat) : Int);
    let x15 := decide (x13 < x14);
    .ask x15
    (
     let x16 := IntKind.wrap .i64 (a1 + 2);
     .need ((decide (0 ≤ x16) && decide (x16 < ((List.length a0 : Nat) : Int)))) (
     let x17 := List.getD a0 (Int.toNat x16) default;
     let x18 := IntKind.wrap .i64 x17;
     .skip (
     let x19 := Int.tmod x18 9;
     let x20 := IntKind.wrap .i64 (x19 - 4);
     let x21 := fofInt .f32 x20;
     .skip (
     .need ((decide (2 < List.length x9))) (
     let x22 := List.set x9 2 x21;
     .skip (
     .skip (
     .need ((decide (0 < List.length x22))) (
     let x23 := List.getD x22 0 default;
     .skip (
     .need ((decide (1 < List.length x22))) (
     let x24 := List.getD x22 1 default;
     .skip (
     .need ((decide (2 < List.length x22))) (
     let x25 := List.getD x22 2 default;
     .leaf ((⟨x23, x24, x25⟩ : Vec))))))))))))))
    (
     .skip (
     .skip (
     .need ((decide (0 < List.length x9))) (
     let x16 := List.getD x9 0 default;
     .skip (
     .need ((decide (1 < List.length x9))) (
     let x17 := List.getD x9 1 default;
     .skip (
     .need ((decide (2 < List.length x9))) (
     let x18 := List.getD x9 2 default;
     .leaf ((⟨x16, x17, x18⟩ : Vec))))))))))))))))))
  (
   .skip (
   let x3 := IntKind.wrap .i64 (a1 + 1);
   let x4 := ((List.length a0 : Nat) : Int);
   let x5 := decide (x3 < x4);
   .ask x5
   (
    let x6 := IntKind.wrap .i64 (a1 + 1);
    .need ((decide (0 ≤ x6) && decide (x6 < ((List.length a0 : Nat) : Int)))) (
    let x7 := List.getD a0 (Int.toNat x6) default;
    let x8 := IntKind.wrap .i64 x7;
    .skip (
    let x9 := Int.tmod x8 9;
    let x10 := IntKind.wrap .i64 (x9 - 4);
    let x11 := fofInt .f32 x10;
    .skip (
    .need ((decide (1 < List.length [1065353216, 1073741824, 3212836864]))) (
    let x12 := List.set [1065353216, 1073741824, 3212836864] 1 x11;
    .skip (
    let x13 := IntKind.wrap .i64 (a1 + 2);
    let x14 := ((List.length a0 : Nat) : Int);
    let x15 := decide (x13 < x14);
    .ask x15
    (
     let x16 := IntKind.wrap .i64 (a1 + 2);
     .need ((decide (0 ≤ x16) && decide (x16 < ((List.length a0 : Nat) : Int)))) (
     let x17 := List.getD a0 (Int.toNat x16) default;
     let x18 := IntKind.wrap .i64 x17;
     .skip (
     let x19 := Int.tmod x18 9;
     let x20 := IntKind.wrap .i64 (x19 - 4);
     let x21 := fofInt .f32 x20;
     .skip (
     .need ((decide (2 < List.length x12))) (
     let x22 := List.set x12 2 x21;
     .skip (
     .skip (
     .need ((decide (0 < List.length x22))) (
     let x23 := List.getD x22 0 default;
     .skip (
     .need ((decide (1 < List.length x22))) (
     let x24 := List.getD x22 1 default;
     .skip (
     .need ((decide (2 < List.length x22))) (
     let x25 := List.getD x22 2 default;
     .leaf ((⟨x23, x24, x25⟩ : Vec))))))))))))))
    (
     .skip (
     .skip (
     .need ((decide (0 < List.length x12))) (
     let x16 := List.getD x12 0 default;
     .skip (
     .need ((decide (1 < List.length x12))) (
     let x17 := List.getD x12 1 default;
     .skip (
     .need ((decide (2 < List.length x12))) (
     let x18 := List.getD x12 2 default;
     .leaf ((⟨x16, x17, x18⟩ : Vec))))))))))))))))
   (
    .skip (
    let x6 := IntKind.wrap .i64 (a1 + 2);
    let x7 := ((List.length a0 : Nat) : Int);
    let x8 := decide (x6 < x7);
    .ask x8
    (
     let x9 := IntKind.wrap .i64 (a1 + 2);
     .need ((decide (0 ≤ x9) && decide (x9 < ((List.length a0 : Nat) : Int)))) (
     let x10 := List.getD a0 (Int.toNat x9) default;
     let x11 := IntKind.wrap .i64 x10;
     .skip (
     let x12 := Int.tmod x11 9;
     let x13 := IntKind.wrap .i64 (x12 - 4);
     let x14 := fofInt .f32 x13;
     .skip (
     .need ((decide (2 < List.length [1065353216, 1073741824, 3212836864]))) (
     let x15 := List.set [1065353216, 1073741824, 3212836864] 2 x14;
     .skip (
     .skip (
     .need ((decide (0 < List.length x15))) (
     let x16 := List.getD x15 0 default;
     .skip (
     .need ((decide (1 < List.length x15))) (
     let x17 := List.getD x15 1 default;
     .skip (
     .need ((decide (2 < List.length x15))) (
     let x18 := List.getD x15 2 default;
     .leaf ((⟨x16, x17, x18⟩ : Vec))))))))))))))
    (
     .skip (
     .skip (
     .need ((decide (0 < List.length [1065353216, 1073741824, 3212836864]))) (
     let x9 := List.getD [1065353216, 1073741824, 3212836864] 0 default;
     .skip (
     .need ((decide (1 < List.length [1065353216, 1073741824, 3212836864]))) (
     let x10 := List.getD [1065353216, 1073741824, 3212836864] 1 default;
     .skip (
     .need ((decide (2 < List.length [1065353216, 1073741824, 3212836864]))) (
     let x11 := List.getD [1065353216, 1073741824, 3212836864] 2 default;
     .leaf ((⟨x9, x10, x11⟩ : Vec)))))))))))))))
def spec_R8Vector (a0 : List Int) (a1 : Int) : Vec := (spec_R8Vector_tree a0 a1).val
def spec_R8Vector_need (a0 : List Int) (a1 : Int) : Bool := (spec_R8Vector_tree a0 a1).ok
def spec_R8Vector_mk (p : Vec) : Ret := ⟨.agg [.flt .f32 p.X, .flt .f32 p.Y, .flt .f32 p.Z], []⟩
def spec_R8Vector_c0 : Con := fun args => match args with
  | [.vslc 1 (.int .u8) a0, .int .i64 a1] => some (.need (spec_R8Vector_need a0 a1) (.leaf (spec_R8Vector_mk (spec_R8Vector a0 a1))))
  | _ => none
set_option maxRecDepth 100000 in
theorem spec_R8Vector_ok0 : FunOK Try.prog 26 spec_R8Vector_c0.fn := by
  refine con_ok (Γ := gam []) (gam_nil) tab_ok (by kernel_rfl) Try.func26 (by kernel_rfl) (by kernel_rfl) Try.ntmps26 Try.results26 (loopsOK_none rfl _) 100000 fun args t h => ?_
  unfold spec_R8Vector_c0 at h
  split at h
  · rename_i a0 a1
    cases h
    exact ⟨rfl, agree_need (mk := spec_R8Vector_mk) (t := spec_R8Vector_tree a0 a1) (by unfold Agree; kernel_rfl)⟩
  · cases h
def spec_R8Vector_c : Con := fun args => spec_R8Vector_c0 (norms 0 [.slc (.int .u8), .none] args)
set_option maxRecDepth 100000 in
theorem spec_R8Vector_ok : FunOK Try.prog 26 spec_R8Vector_c.fn := con_norm [.slc (.int .u8), .none] spec_R8Vector_ok0

-- FAILED 68 loop.example/g01284/impl.MoveBodies$1: param type 0

/-- loop.example/g01284/impl.asBodies -/
def impl_asBodies_tree (a0 : List Body) : DT ((Unit) ⊕ (List Body)) :=
  .need ((impl_AreBodies_need a0)) (
  let x0 := impl_AreBodies a0;
  .ask (!x0)
  (
   .leaf (.inl ()))
  (
   .leaf (.inr a0)))
def impl_asBodies (a0 : List Body) : (Unit) ⊕ (List Body) := (impl_asBodies_tree a0).val
def impl_asBodies_need (a0 : List Body) : Bool := (impl_asBodies_tree a0).ok
def impl_asBodies_mk0 (p : Unit) : Ret := ⟨.tup [.nils, .bool false], []⟩
def impl_asBodies_mk1 (p : List Body) : Ret := ⟨.tup [.vslc 1 .body p, .bool true], []⟩
def impl_asBodies_mk : (Unit) ⊕ (List Body) → Ret := fun v => match v with
  | (.inl p) => impl_asBodies_mk0 p
  | (.inr p) => impl_asBodies_mk1 p
def impl_asBodies_forms (v : (Unit) ⊕ (List Body)) : DT Ret := .ask (isL v) (.leaf (impl_asBodies_mk0 (leftD v))) (.leaf (impl_asBodies_mk1 (rightD v)))
theorem impl_asBodies_forms_get : ∀ v, (impl_asBodies_forms v).get = some (impl_asBodies_mk v) := by
  intro v
  rcases v with v | v <;> rfl
def impl_asBodies_c0 : Con := fun args => match args with
  | [.vslc 1 .body a0] => some (.need (impl_asBodies_need a0) (impl_asBodies_forms (impl_asBodies a0)))
  | _ => none
set_option maxRecDepth 100000 in
theorem impl_asBodies_ok0 : FunOK Try.prog 101 impl_asBodies_c0.fn := by
  refine con_ok (Γ := gam [(64, impl_AreBodies_c)]) (gam_cons impl_AreBodies_ok (gam_nil)) tab_ok (by kernel_rfl) Try.func101 (by kernel_rfl) (by kernel_rfl) Try.ntmps101 Try.results101 (loopsOK_none rfl _) 100000 fun args t h => ?_
  unfold impl_asBodies_c0 at h
  split at h
  · rename_i a0
    cases h
    exact ⟨rfl, agree_forms (mk := impl_asBodies_mk) (t := impl_asBodies_tree a0) (by unfold Agree; kernel_rfl) (fun h => h) (impl_asBodies_forms_get _)⟩
  · cases h
def impl_asBodies_c : Con := fun args => impl_asBodies_c0 (norms 0 [.slc .body] args)
set_option maxRecDepth 100000 in
theorem impl_asBodies_ok : FunOK Try.prog 101 impl_asBodies_c.fn := con_norm [.slc .body] impl_asBodies_ok0

/-- loop.example/g01284/impl.MoveBodies$1 -/
def impl_MoveBodies_1_tree (a0 : Body) (a1_0 : Nat) (a1_1 : Nat) (a1_2 : Nat) (a2_0 : Nat) (a2_1 : Nat) (a2_2 : Nat) : DT (Body) :=
  let x0 := impl_AddVectors (⟨a0.At.X, a0.At.Y, a0.At.Z⟩ : Vec) (⟨a1_0, a1_1, a1_2⟩ : Vec);
  let x1 := impl_AddVectors (⟨a0.Speed.X, a0.Speed.Y, a0.Speed.Z⟩ : Vec) (⟨a2_0, a2_1, a2_2⟩ : Vec);
  .leaf ((⟨⟨x0.X, x0.Y, x0.Z⟩, ⟨x1.X, x1.Y, x1.Z⟩, a0.Mass⟩ : Body))
def impl_MoveBodies_1 (a0 : Body) (a1_0 : Nat) (a1_1 : Nat) (a1_2 : Nat) (a2_0 : Nat) (a2_1 : Nat) (a2_2 : Nat) : Body := (impl_MoveBodies_1_tree a0 a1_0 a1_1 a1_2 a2_0 a2_1 a2_2).val
def impl_MoveBodies_1_mk (p : Body) : Ret := ⟨.agg [.flt .f32 p.At.X, .flt .f32 p.At.Y, .flt .f32 p.At.Z, .flt .f32 p.Speed.X, .flt .f32 p.Speed.Y, .flt .f32 p.Speed.Z, .flt .f32 p.Mass], []⟩
def impl_MoveBodies_1_c : Con := fun args => match args with
  | [.agg [.flt .f32 a0_0, .flt .f32 a0_1, .flt .f32 a0_2, .flt .f32 a0_3, .flt .f32 a0_4, .flt .f32 a0_5, .flt .f32 a0_6], .vcell [.flt .f32 a1_0, .flt .f32 a1_1, .flt .f32 a1_2] 0, .vcell [.flt .f32 a2_0, .flt .f32 a2_1, .flt .f32 a2_2] 0] => some (.leaf (impl_MoveBodies_1_mk (impl_MoveBodies_1 (⟨⟨a0_0, a0_1, a0_2⟩, ⟨a0_3, a0_4, a0_5⟩, a0_6⟩ : Body) a1_0 a1_1 a1_2 a2_0 a2_1 a2_2)))
  | _ => none
set_option maxRecDepth 100000 in
theorem impl_MoveBodies_1_ok : FunOK Try.prog 68 impl_MoveBodies_1_c.fn := by
  refine con_ok (Γ := gam [(28, impl_AddVectors_c)]) (gam_cons impl_AddVectors_ok (gam_nil)) tab_ok (by kernel_rfl) Try.func68 (by kernel_rfl) (by kernel_rfl) Try.ntmps68 Try.results68 (loopsOK_none rfl _) 100000 fun args t h => ?_
  unfold impl_MoveBodies_1_c at h
  split at h
  · rename_i a0_0 a0_1 a0_2 a0_3 a0_4 a0_5 a0_6 a1_0 a1_1 a1_2 a2_0 a2_1 a2_2
    cases h
    exact ⟨rfl, agree_tot (mk := impl_MoveBodies_1_mk) (t := impl_MoveBodies_1_tree (⟨⟨a0_0, a0_1, a0_2⟩, ⟨a0_3, a0_4, a0_5⟩, a0_6⟩ : Body) a1_0 a1_1 a1_2 a2_0 a2_1 a2_2) (by unfold Agree; kernel_rfl) (by kernel_rfl)⟩
  · cases h

/-- a loop of impl_changed_impl_MoveBodies_1 -/
def impl_changed_impl_MoveBodies_1_loop0_step (p : Nat × Nat × Nat × Nat × Nat × Nat × List Body × Int) (s : Int × List Body) : Round (Int × List Body) (List Body) :=
  let x0 := decide (s.1 < p.2.2.2.2.2.2.2);
  .ask x0
  (
   .need ((decide (0 ≤ s.1) && decide (s.1 < ((List.length p.2.2.2.2.2.2.1 : Nat) : Int)))) (
   let x1 := List.getD p.2.2.2.2.2.2.1 (Int.toNat s.1) default;
   let x2 := impl_MoveBodies_1 (⟨⟨x1.At.X, x1.At.Y, x1.At.Z⟩, ⟨x1.Speed.X, x1.Speed.Y, x1.Speed.Z⟩, x1.Mass⟩ : Body) p.1 p.2.1 p.2.2.1 p.2.2.2.1 p.2.2.2.2.1 p.2.2.2.2.2.1;
   .need ((decide ((List.length s.2 + List.length [(⟨⟨x2.At.X, x2.At.Y, x2.At.Z⟩, ⟨x2.Speed.X, x2.Speed.Y, x2.Speed.Z⟩, x2.Mass⟩ : Body)]) * 28 ≤ 140737488355328) && decide (List.length s.2 + List.length [(⟨⟨x2.At.X, x2.At.Y, x2.At.Z⟩, ⟨x2.Speed.X, x2.Speed.Y, x2.Speed.Z⟩, x2.Mass⟩ : Body)] ≤ 9223372036854775807))) (
   let x3 := s.2 ++ [(⟨⟨x2.At.X, x2.At.Y, x2.At.Z⟩, ⟨x2.Speed.X, x2.Speed.Y, x2.Speed.Z⟩, x2.Mass⟩ : Body)];
   let x4 := IntKind.wrap .i64 (s.1 + 1);
   .leaf (.inl (x4, x3), [81]))))
  (
   .leaf (.inr s.2, [0]))
def impl_changed_impl_MoveBodies_1_loop0_L (p : Nat × Nat × Nat × Nat × Nat × Nat × List Body × Int) : LoopS (Int × List Body) (List Body) := { tl := fun s => [.junk, .func (.func 68) [] [.vcell [.flt .f32 p.1, .flt .f32 p.2.1, .flt .f32 p.2.2.1] 0, .vcell [.flt .f32 p.2.2.2.1, .flt .f32 p.2.2.2.2.1, .flt .f32 p.2.2.2.2.2.1] 0], .junk, .junk, .junk, .junk, .own 0, .junk, .junk, .junk, .junk, .junk, .junk, .vslc 1 .body p.2.2.2.2.2.2.1, .int .i64 p.2.2.2.2.2.2.2, .int .i64 s.1], hl := fun s => [some (.typed 72 .body s.2)], ex := fun r => .exit 0, otl := fun r => [.junk, .junk, .junk, .junk, .junk, .junk, .own 0], ohl := fun r => [some (.typed 72 .body r)] }
def impl_changed_impl_MoveBodies_1_loop0_ext : St → Option ((Nat × Nat × Nat × Nat × Nat × Nat × List Body × Int) × (Int × List Body) × List Nat) := fun S => match (S.tm 1).unK, (S.tm 6).unK, (S.tm 13).unK, (S.tm 14).unK, (S.tm 15).unK with
  | .func (.func 68) [] [.vcell [.flt .f32 q0, .flt .f32 q1, .flt .f32 q2] 0, .vcell [.flt .f32 q3, .flt .f32 q4, .flt .f32 q5] 0], .own i0, .vslc 1 .body q6, .int .i64 q7, .int .i64 q8 => (match S.hp i0 with
    | some (.typed 72 .body q9) => some ((q0, q1, q2, q3, q4, q5, q6, q7), (q8, q9), [i0])
    | _ => none)
  | _, _, _, _, _ => none
def impl_changed_impl_MoveBodies_1_loop0_post (p : Nat × Nat × Nat × Nat × Nat × Nat × List Body × Int) (r : List Body) : DT (Ex × St) := .leaf (.exit 0, LSt [.junk, .junk, .junk, .junk, .junk, .junk, .own 0] [some (.typed 72 .body r)])
def impl_changed_impl_MoveBodies_1_loop0 (p : Nat × Nat × Nat × Nat × Nat × Nat × List Body × Int) (s : Int × List Body) : List Body := loopVal (impl_changed_impl_MoveBodies_1_loop0_step p) s
def impl_changed_impl_MoveBodies_1_loop0_ends (p : Nat × Nat × Nat × Nat × Nat × Nat × List Body × Int) (s : Int × List Body) : Bool := loopEnds (impl_changed_impl_MoveBodies_1_loop0_step p) s
def impl_changed_impl_MoveBodies_1_loop0_F : LoopF := loopF impl_changed_impl_MoveBodies_1_loop0_step impl_changed_impl_MoveBodies_1_loop0_ext impl_changed_impl_MoveBodies_1_loop0_post
set_option maxRecDepth 100000 in
theorem impl_changed_impl_MoveBodies_1_loop0_hext : ∀ S p s fl, impl_changed_impl_MoveBodies_1_loop0_ext S = some (p, s, fl) → Norm S fl ((impl_changed_impl_MoveBodies_1_loop0_L p).tl s) ((impl_changed_impl_MoveBodies_1_loop0_L p).hl s) (impl_changed_impl_MoveBodies_1_loop0_L p).gl := by
  intro S p s fl h
  unfold impl_changed_impl_MoveBodies_1_loop0_ext at h
  (repeat' split at h) <;> first
    | (cases h; constructor <;> simp_all [impl_changed_impl_MoveBodies_1_loop0_L, keepT, keepH, rens, renH, PV.ren, Blk.ren, fOf, lget, nodup, natIn, lenEq, gtm, PV.unK])
    | cases h
set_option maxRecDepth 100000 in
theorem impl_changed_impl_MoveBodies_1_loop0_hpost : ∀ p r e S', (impl_changed_impl_MoveBodies_1_loop0_post p r).get = some (e, S') → e = (impl_changed_impl_MoveBodies_1_loop0_L p).ex r ∧ S' = LSt ((impl_changed_impl_MoveBodies_1_loop0_L p).otl r) ((impl_changed_impl_MoveBodies_1_loop0_L p).ohl r) ((impl_changed_impl_MoveBodies_1_loop0_L p).ogl r) := by
  intro p r e S' h
  unfold impl_changed_impl_MoveBodies_1_loop0_post at h
  simp only [DT.get, Option.some.injEq, Prod.mk.injEq] at h; exact ⟨h.1.symm, h.2.symm⟩

def impl_changed_impl_MoveBodies_1_loops : Nat → Option LoopF := loopTab [(5, impl_changed_impl_MoveBodies_1_loop0_F)]
set_option maxRecDepth 100000 in
theorem impl_changed_impl_MoveBodies_1_l0 : LoopOK Try.prog ⟨gam [(64, impl_AreBodies_c), (68, impl_MoveBodies_1_c), (101, impl_asBodies_c)], tab, 30, impl_changed_impl_MoveBodies_1_loops⟩ (lp Try.f67 0) :=
  loopOK_some (F := impl_changed_impl_MoveBodies_1_loop0_F) (by kernel_rfl) (loopF_ok (E := ⟨gam [(64, impl_AreBodies_c), (68, impl_MoveBodies_1_c), (101, impl_asBodies_c)], tab, 30, impl_changed_impl_MoveBodies_1_loops⟩) ⟨gam_cons impl_AreBodies_ok (gam_cons impl_MoveBodies_1_ok (gam_cons impl_asBodies_ok (gam_nil))), tab_ok, by kernel_rfl⟩ (fuel := 100000) (loopsOK_list (l := []) (by kernel_rfl) trivial) (L := impl_changed_impl_MoveBodies_1_loop0_L) (fun p s => by unfold AgreeL; exact ⟨by kernel_rfl, by kernel_rfl⟩) (fun _ _ h => Ex.noConfusion h) impl_changed_impl_MoveBodies_1_loop0_hext impl_changed_impl_MoveBodies_1_loop0_hpost)
/-- loop.example/g01284/impl.changed -/
def impl_changed_impl_MoveBodies_1_tree (a0 : List Body) (a1_0 : Nat) (a1_1 : Nat) (a1_2 : Nat) (a1_3 : Nat) (a1_4 : Nat) (a1_5 : Nat) : DT ((Unit) ⊕ (List Body)) :=
  .need ((impl_AreBodies_need a0)) (
  let x0 := impl_AreBodies a0;
  .ask (!x0)
  (
   .leaf (.inl ()))
  (
   let x1 := ((List.length a0 : Nat) : Int);
   .need ((impl_changed_impl_MoveBodies_1_loop0_ends (a1_0, a1_1, a1_2, a1_3, a1_4, a1_5, a0, x1) (0, []))) (
   let x2 := impl_changed_impl_MoveBodies_1_loop0 (a1_0, a1_1, a1_2, a1_3, a1_4, a1_5, a0, x1) (0, []);
   .need ((impl_asBodies_need x2)) (
   let x3 := impl_asBodies x2;
   .ask ((isL x3))
   (
    .leaf (.inl ()))
   (
    .leaf (.inr x2))))))
def impl_changed_impl_MoveBodies_1 (a0 : List Body) (a1_0 : Nat) (a1_1 : Nat) (a1_2 : Nat) (a1_3 : Nat) (a1_4 : Nat) (a1_5 : Nat) : (Unit) ⊕ (List Body) := (impl_changed_impl_MoveBodies_1_tree a0 a1_0 a1_1 a1_2 a1_3 a1_4 a1_5).val
def impl_changed_impl_MoveBodies_1_need (a0 : List Body) (a1_0 : Nat) (a1_1 : Nat) (a1_2 : Nat) (a1_3 : Nat) (a1_4 : Nat) (a1_5 : Nat) : Bool := (impl_changed_impl_MoveBodies_1_tree a0 a1_0 a1_1 a1_2 a1_3 a1_4 a1_5).ok
def impl_changed_impl_MoveBodies_1_mk0 (p : Unit) : Ret := ⟨.tup [.nils, .bool false], []⟩
def impl_changed_impl_MoveBodies_1_mk1 (p : List Body) : Ret := ⟨.tup [.own 0, .bool true], [.typed 72 .body p]⟩
def impl_changed_impl_MoveBodies_1_mk : (Unit) ⊕ (List Body) → Ret := fun v => match v with
  | (.inl p) => impl_changed_impl_MoveBodies_1_mk0 p
  | (.inr p) => impl_changed_impl_MoveBodies_1_mk1 p
def impl_changed_impl_MoveBodies_1_forms (v : (Unit) ⊕ (List Body)) : DT Ret := .ask (isL v) (.leaf (impl_changed_impl_MoveBodies_1_mk0 (leftD v))) (.leaf (impl_changed_impl_MoveBodies_1_mk1 (rightD v)))
theorem impl_changed_impl_MoveBodies_1_forms_get : ∀ v, (impl_changed_impl_MoveBodies_1_forms v).get = some (impl_changed_impl_MoveBodies_1_mk v) := by
  intro v
  rcases v with v | v <;> rfl
def impl_changed_impl_MoveBodies_1_c0 : Con := fun args => match args with
  | [.vslc 1 .body a0, .func (.func 68) [] [.vcell [.flt .f32 a1_0, .flt .f32 a1_1, .flt .f32 a1_2] 0, .vcell [.flt .f32 a1_3, .flt .f32 a1_4, .flt .f32 a1_5] 0]] => some (.need (impl_changed_impl_MoveBodies_1_need a0 a1_0 a1_1 a1_2 a1_3 a1_4 a1_5) (impl_changed_impl_MoveBodies_1_forms (impl_changed_impl_MoveBodies_1 a0 a1_0 a1_1 a1_2 a1_3 a1_4 a1_5)))
  | _ => none
set_option maxRecDepth 100000 in
theorem impl_changed_impl_MoveBodies_1_ok0 : FunOK Try.prog 67 impl_changed_impl_MoveBodies_1_c0.fn := by
  refine con_ok (Γ := gam [(64, impl_AreBodies_c), (68, impl_MoveBodies_1_c), (101, impl_asBodies_c)]) (gam_cons impl_AreBodies_ok (gam_cons impl_MoveBodies_1_ok (gam_cons impl_asBodies_ok (gam_nil)))) tab_ok (by kernel_rfl) Try.func67 (by kernel_rfl) (by kernel_rfl) Try.ntmps67 Try.results67 (loops := impl_changed_impl_MoveBodies_1_loops) (loopsOK_list (l := [lp Try.f67 0]) (by kernel_rfl) ⟨impl_changed_impl_MoveBodies_1_l0, trivial⟩) 100000 fun args t h => ?_
  unfold impl_changed_impl_MoveBodies_1_c0 at h
  split at h
  · rename_i a0 a1_0 a1_1 a1_2 a1_3 a1_4 a1_5
    cases h
    exact ⟨rfl, agree_forms (mk := impl_changed_impl_MoveBodies_1_mk) (t := impl_changed_impl_MoveBodies_1_tree a0 a1_0 a1_1 a1_2 a1_3 a1_4 a1_5) (by unfold Agree; kernel_rfl) (fun h => h) (impl_changed_impl_MoveBodies_1_forms_get _)⟩
  · cases h
def impl_changed_impl_MoveBodies_1_c : Con := fun args => impl_changed_impl_MoveBodies_1_c0 (norms 0 [.slc .body, .none] args)
set_option maxRecDepth 100000 in
theorem impl_changed_impl_MoveBodies_1_ok : FunOK Try.prog 67 impl_changed_impl_MoveBodies_1_c.fn := con_norm [.slc .body, .none] impl_changed_impl_MoveBodies_1_ok0

/-- loop.example/g01284/impl.MoveBodies -/
def impl_MoveBodies_tree (a0 : List Body) (a1 : Vec) (a2 : Vec) : DT ((Unit) ⊕ (List Body)) :=
  .need ((impl_isFiniteVector_need (⟨a1.X, a1.Y, a1.Z⟩ : Vec))) (
  let x0 := impl_isFiniteVector (⟨a1.X, a1.Y, a1.Z⟩ : Vec);
  .ask (!x0)
  (
   .leaf (.inl ()))
  (
   .need ((impl_isFiniteVector_need (⟨a2.X, a2.Y, a2.Z⟩ : Vec))) (
   let x1 := impl_isFiniteVector (⟨a2.X, a2.Y, a2.Z⟩ : Vec);
   .ask (!x1)
   (
    .leaf (.inl ()))
   (
    .need ((impl_changed_impl_MoveBodies_1_need a0 a1.X a1.Y a1.Z a2.X a2.Y a2.Z)) (
    let x2 := impl_changed_impl_MoveBodies_1 a0 a1.X a1.Y a1.Z a2.X a2.Y a2.Z;
    .ask ((isL x2))
    (
     .leaf (.inl ()))
    (
     .leaf (.inr ((rightD x2)))))))))
def impl_MoveBodies (a0 : List Body) (a1 : Vec) (a2 : Vec) : (Unit) ⊕ (List Body) := (impl_MoveBodies_tree a0 a1 a2).val
def impl_MoveBodies_need (a0 : List Body) (a1 : Vec) (a2 : Vec) : Bool := (impl_MoveBodies_tree a0 a1 a2).ok
def impl_MoveBodies_mk0 (p : Unit) : Ret := ⟨.tup [.nils, .bool false], []⟩
def impl_MoveBodies_mk1 (p : List Body) : Ret := ⟨.tup [.own 0, .bool true], [.typed 72 .body p]⟩
def impl_MoveBodies_mk : (Unit) ⊕ (List Body) → Ret := fun v => match v with
  | (.inl p) => impl_MoveBodies_mk0 p
  | (.inr p) => impl_MoveBodies_mk1 p
def impl_MoveBodies_forms (v : (Unit) ⊕ (List Body)) : DT Ret := .ask (isL v) (.leaf (impl_MoveBodies_mk0 (leftD v))) (.leaf (impl_MoveBodies_mk1 (rightD v)))
theorem impl_MoveBodies_forms_get : ∀ v, (impl_MoveBodies_forms v).get = some (impl_MoveBodies_mk v) := by
  intro v
  rcases v with v | v <;> rfl
def impl_MoveBodies_c0 : Con := fun args => match args with
  | [.vslc 1 .body a0, .agg [.flt .f32 a1_0, .flt .f32 a1_1, .flt .f32 a1_2], .agg [.flt .f32 a2_0, .flt .f32 a2_1, .flt .f32 a2_2]] => some (.need (impl_MoveBodies_need a0 (⟨a1_0, a1_1, a1_2⟩ : Vec) (⟨a2_0, a2_1, a2_2⟩ : Vec)) (impl_MoveBodies_forms (impl_MoveBodies a0 (⟨a1_0, a1_1, a1_2⟩ : Vec) (⟨a2_0, a2_1, a2_2⟩ : Vec))))
  | _ => none
set_option maxRecDepth 100000 in
theorem impl_MoveBodies_ok0 : FunOK Try.prog 25 impl_MoveBodies_c0.fn := by
  refine con_ok (Γ := gam [(51, impl_isFiniteVector_c), (67, impl_changed_impl_MoveBodies_1_c)]) (gam_cons impl_isFiniteVector_ok (gam_cons impl_changed_impl_MoveBodies_1_ok (gam_nil))) tab_ok (by kernel_rfl) Try.func25 (by kernel_rfl) (by kernel_rfl) Try.ntmps25 Try.results25 (loopsOK_none rfl _) 100000 fun args t h => ?_
  unfold impl_MoveBodies_c0 at h
  split at h
  · rename_i a0 a1_0 a1_1 a1_2 a2_0 a2_1 a2_2
    cases h
    exact ⟨rfl, agree_forms (mk := impl_MoveBodies_mk) (t := impl_MoveBodies_tree a0 (⟨a1_0, a1_1, a1_2⟩ : Vec) (⟨a2_0, a2_1, a2_2⟩ : Vec)) (by unfold Agree; kernel_rfl) (fun h => h) (impl_MoveBodies_forms_get _)⟩
  · cases h
def impl_MoveBodies_c : Con := fun args => impl_MoveBodies_c0 (norms 0 [.slc .body, .none, .none] args)
set_option maxRecDepth 100000 in
theorem impl_MoveBodies_ok : FunOK Try.prog 25 impl_MoveBodies_c.fn := con_norm [.slc .body, .none, .none] impl_MoveBodies_ok0

/-- math.NaN -/
def math_NaN_tree  : DT (Nat) :=
  let x0 := canon .f64 (Int.toNat 9221120237041090561);
  .leaf x0
def math_NaN  : Nat := (math_NaN_tree ).val
def math_NaN_mk (p : Nat) : Ret := ⟨.flt .f64 p, []⟩
def math_NaN_c : Con := fun args => match args with
  | [] => some (.leaf (math_NaN_mk (math_NaN )))
  | _ => none
set_option maxRecDepth 100000 in
theorem math_NaN_ok : FunOK Try.prog 83 math_NaN_c.fn := by
  refine con_ok (Γ := gam [(112, math_Float64frombits_c)]) (gam_cons math_Float64frombits_ok (gam_nil)) tab_ok (by kernel_rfl) Try.func83 (by kernel_rfl) (by kernel_rfl) Try.ntmps83 Try.results83 (loopsOK_none rfl _) 100000 fun args t h => ?_
  unfold math_NaN_c at h
  split at h
  · cases h
    exact ⟨rfl, agree_tot (mk := math_NaN_mk) (t := math_NaN_tree ) (by unfold Agree; kernel_rfl) (by kernel_rfl)⟩
  · cases h

-- FAILED 133 math.Copysign: nanb

-- FAILED 132 math.trunc: no contract: math.Copysign 

/-- math.Trunc -/
def math_Trunc_tree (a0 : Nat) : DT (Nat) :=
  let x0 := ftrunc a0;
  .leaf x0
def math_Trunc (a0 : Nat) : Nat := (math_Trunc_tree a0).val
def math_Trunc_mk (p : Nat) : Ret := ⟨.flt .f64 p, []⟩
def math_Trunc_c : Con := fun args => match args with
  | [.flt .f64 a0] => some (.leaf (math_Trunc_mk (math_Trunc a0)))
  | _ => none
set_option maxRecDepth 100000 in
theorem math_Trunc_ok : FunOK Try.prog 127 math_Trunc_c.fn := by
  refine con_ok (Γ := gam [(131, math_archTrunc_c)]) (gam_cons math_archTrunc_ok (gam_nil)) tab_ok (by kernel_rfl) Try.func127 (by kernel_rfl) (by kernel_rfl) Try.ntmps127 Try.results127 (loopsOK_none rfl _) 100000 fun args t h => ?_
  unfold math_Trunc_c at h
  split at h
  · rename_i a0
    cases h
    exact ⟨rfl, agree_tot (mk := math_Trunc_mk) (t := math_Trunc_tree a0) (by unfold Agree; kernel_rfl) (by kernel_rfl)⟩
  · cases h

/-- loop.example/g01284/impl.behind -/
def impl_behind_tree (a0 : Nat) : DT (Nat) :=
  let x0 := math_Trunc a0;
  let x1 := fadd .f64 x0 0;
  let x2 := fsub .f64 a0 x1;
  let x3 := flt .f64 x2 0;
  .ask x3
  (
   let x4 := fadd .f64 x2 4607182418800017408;
   .leaf x4)
  (
   .leaf x2)
def impl_behind (a0 : Nat) : Nat := (impl_behind_tree a0).val
def impl_behind_mk (p : Nat) : Ret := ⟨.flt .f64 p, []⟩
def impl_behind_c : Con := fun args => match args with
  | [.flt .f64 a0] => some (.leaf (impl_behind_mk (impl_behind a0)))
  | _ => none
set_option maxRecDepth 100000 in
theorem impl_behind_ok : FunOK Try.prog 114 impl_behind_c.fn := by
  refine con_ok (Γ := gam [(127, math_Trunc_c)]) (gam_cons math_Trunc_ok (gam_nil)) tab_ok (by kernel_rfl) Try.func114 (by kernel_rfl) (by kernel_rfl) Try.ntmps114 Try.results114 (loopsOK_none rfl _) 100000 fun args t h => ?_
  unfold impl_behind_c at h
  split at h
  · rename_i a0
    cases h
    exact ⟨rfl, agree_tot (mk := impl_behind_mk) (t := impl_behind_tree a0) (by unfold Agree; kernel_rfl) (by kernel_rfl)⟩
  · cases h

/-- loop.example/g01284/impl.sine -/
def impl_sine_tree (a0 : Nat) : DT (Nat) :=
  let x0 := impl_behind a0;
  let x1 := fge .f64 x0 4602678819172646912;
  .ask x1
  (
   let x2 := fsub .f64 x0 4602678819172646912;
   let x3 := fgt .f64 x2 4598175219545276416;
   .ask x3
   (
    let x4 := fsub .f64 4602678819172646912 x2;
    let x5 := fmul .f64 x4 4618760256179416344;
    let x6 := fmul .f64 x5 x5;
    .skip (
    let x7 := fmul .f64 x6 4607182418800017408;
    let x8 := fofInt .f64 272;
    let x9 := fdiv .f64 x7 x8;
    let x10 := fsub .f64 4607182418800017408 x9;
    .skip (
    let x11 := fmul .f64 x6 x10;
    let x12 := fofInt .f64 210;
    let x13 := fdiv .f64 x11 x12;
    let x14 := fsub .f64 4607182418800017408 x13;
    .skip (
    let x15 := fmul .f64 x6 x14;
    let x16 := fofInt .f64 156;
    let x17 := fdiv .f64 x15 x16;
    let x18 := fsub .f64 4607182418800017408 x17;
    .skip (
    let x19 := fmul .f64 x6 x18;
    let x20 := fofInt .f64 110;
    let x21 := fdiv .f64 x19 x20;
    let x22 := fsub .f64 4607182418800017408 x21;
    .skip (
    let x23 := fmul .f64 x6 x22;
    let x24 := fofInt .f64 72;
    let x25 := fdiv .f64 x23 x24;
    let x26 := fsub .f64 4607182418800017408 x25;
    .skip (
    let x27 := fmul .f64 x6 x26;
    let x28 := fofInt .f64 42;
    let x29 := fdiv .f64 x27 x28;
    let x30 := fsub .f64 4607182418800017408 x29;
    .skip (
    let x31 := fmul .f64 x6 x30;
    let x32 := fofInt .f64 20;
    let x33 := fdiv .f64 x31 x32;
    let x34 := fsub .f64 4607182418800017408 x33;
    .skip (
    let x35 := fmul .f64 x6 x34;
    let x36 := fofInt .f64 6;
    let x37 := fdiv .f64 x35 x36;
    let x38 := fsub .f64 4607182418800017408 x37;
    .skip (
    let x39 := fmul .f64 x5 x38;
    let x40 := fneg .f64 x39;
    .leaf x40))))))))))
   (
    let x4 := fmul .f64 x2 4618760256179416344;
    let x5 := fmul .f64 x4 x4;
    .skip (
    let x6 := fmul .f64 x5 4607182418800017408;
    let x7 := fofInt .f64 272;
    let x8 := fdiv .f64 x6 x7;
    let x9 := fsub .f64 4607182418800017408 x8;
    .skip (
    let x10 := fmul .f64 x5 x9;
    let x11 := fofInt .f64 210;
    let x12 := fdiv .f64 x10 x11;
    let x13 := fsub .f64 4607182418800017408 x12;
    .skip (
    let x14 := fmul .f64 x5 x13;
    let x15 := fofInt .f64 156;
    let x16 := fdiv .f64 x14 x15;
    let x17 := fsub .f64 4607182418800017408 x16;
    .skip (
    let x18 := fmul .f64 x5 x17;
    let x19 := fofInt .f64 110;
    let x20 := fdiv .f64 x18 x19;
    let x21 := fsub .f64 4607182418800017408 x20;
    .skip (
    let x22 := fmul .f64 x5 x21;
    let x23 := fofInt .f64 72;
    let x24 := fdiv .f64 x22 x23;
    let x25 := fsub .f64 4607182418800017408 x24;
    .skip (
    let x26 := fmul .f64 x5 x25;
    let x27 := fofInt .f64 42;
    let x28 := fdiv .f64 x26 x27;
    let x29 := fsub .f64 4607182418800017408 x28;
    .skip (
    let x30 := fmul .f64 x5 x29;
    let x31 := fofInt .f64 20;
    let x32 := fdiv .f64 x30 x31;
    let x33 := fsub .f64 4607182418800017408 x32;
    .skip (
    let x34 := fmul .f64 x5 x33;
    let x35 := fofInt .f64 6;
    let x36 := fdiv .f64 x34 x35;
    let x37 := fsub .f64 4607182418800017408 x36;
    .skip (
    let x38 := fmul .f64 x4 x37;
    let x39 := fneg .f64 x38;
    .leaf x39)))))))))))
  (
   let x2 := fgt .f64 x0 4598175219545276416;
   .ask x2
   (
    let x3 := fsub .f64 4602678819172646912 x0;
    let x4 := fmul .f64 x3 4618760256179416344;
    let x5 := fmul .f64 x4 x4;
    .skip (
    let x6 := fmul .f64 x5 4607182418800017408;
    let x7 := fofInt .f64 272;
    let x8 := fdiv .f64 x6 x7;
    let x9 := fsub .f64 4607182418800017408 x8;
    .skip (
    let x10 := fmul .f64 x5 x9;
    let x11 := fofInt .f64 210;
    let x12 := fdiv .f64 x10 x11;
    let x13 := fsub .f64 4607182418800017408 x12;
    .skip (
    let x14 := fmul .f64 x5 x13;
    let x15 := fofInt .f64 156;
    let x16 := fdiv .f64 x14 x15;
    let x17 := fsub .f64 4607182418800017408 x16;
    .skip (
    let x18 := fmul .f64 x5 x17;
    let x19 := fofInt .f64 110;
    let x20 := fdiv .f64 x18 x19;
    let x21 := fsub .f64 4607182418800017408 x20;
    .skip (
    let x22 := fmul .f64 x5 x21;
    let x23 := fofInt .f64 72;
    let x24 := fdiv .f64 x22 x23;
    let x25 := fsub .f64 4607182418800017408 x24;
    .skip (
    let x26 := fmul .f64 x5 x25;
    let x27 := fofInt .f64 42;
    let x28 := fdiv .f64 x26 x27;
    let x29 := fsub .f64 4607182418800017408 x28;
    .skip (
    let x30 := fmul .f64 x5 x29;
    let x31 := fofInt .f64 20;
    let x32 := fdiv .f64 x30 x31;
    let x33 := fsub .f64 4607182418800017408 x32;
    .skip (
    let x34 := fmul .f64 x5 x33;
    let x35 := fofInt .f64 6;
    let x36 := fdiv .f64 x34 x35;
    let x37 := fsub .f64 4607182418800017408 x36;
    .skip (
    let x38 := fmul .f64 x4 x37;
    .leaf x38))))))))))
   (
    let x3 := fmul .f64 x0 4618760256179416344;
    let x4 := fmul .f64 x3 x3;
    .skip (
    let x5 := fmul .f64 x4 4607182418800017408;
    let x6 := fofInt .f64 272;
    let x7 := fdiv .f64 x5 x6;
    let x8 := fsub .f64 4607182418800017408 x7;
    .skip (
    let x9 := fmul .f64 x4 x8;
    let x10 := fofInt .f64 210;
    let x11 := fdiv .f64 x9 x10;
    let x12 := fsub .f64 4607182418800017408 x11;
    .skip (
    let x13 := fmul .f64 x4 x12;
    let x14 := fofInt .f64 156;
    let x15 := fdiv .f64 x13 x14;
    let x16 := fsub .f64 4607182418800017408 x15;
    .skip (
    let x17 := fmul .f64 x4 x16;
    let x18 := fofInt .f64 110;
    let x19 := fdiv .f64 x17 x18;
    let x20 := fsub .f64 4607182418800017408 x19;
    .skip (
    let x21 := fmul .f64 x4 x20;
    let x22 := fofInt .f64 72;
    let x23 := fdiv .f64 x21 x22;
    let x24 := fsub .f64 4607182418800017408 x23;
    .skip (
    let x25 := fmul .f64 x4 x24;
    let x26 := fofInt .f64 42;
    let x27 := fdiv .f64 x25 x26;
    let x28 := fsub .f64 4607182418800017408 x27;
    .skip (
    let x29 := fmul .f64 x4 x28;
    let x30 := fofInt .f64 20;
    let x31 := fdiv .f64 x29 x30;
    let x32 := fsub .f64 4607182418800017408 x31;
    .skip (
    let x33 := fmul .f64 x4 x32;
    let x34 := fofInt .f64 6;
    let x35 := fdiv .f64 x33 x34;
    let x36 := fsub .f64 4607182418800017408 x35;
    .skip (
    let x37 := fmul .f64 x3 x36;
    .leaf x37)))))))))))
def impl_sine (a0 : Nat) : Nat := (impl_sine_tree a0).val
def impl_sine_mk (p : Nat) : Ret := ⟨.flt .f64 p, []⟩
def impl_sine_c : Con := fun args => match args with
  | [.flt .f64 a0] => some (.leaf (impl_sine_mk (impl_sine a0)))
  | _ => none
set_option maxRecDepth 100000 in
theorem impl_sine_ok : FunOK Try.prog 85 impl_sine_c.fn := by
  refine con_ok (Γ := gam [(114, impl_behind_c)]) (gam_cons impl_behind_ok (gam_nil)) tab_ok (by kernel_rfl) Try.func85 (by kernel_rfl) (by kernel_rfl) Try.ntmps85 Try.results85 (loopsOK_none rfl _) 100000 fun args t h => ?_
  unfold impl_sine_c at h
  split at h
  · rename_i a0
    cases h
    exact ⟨rfl, agree_tot (mk := impl_sine_mk) (t := impl_sine_tree a0) (by unfold Agree; kernel_rfl) (by kernel_rfl)⟩
  · cases h

/-- loop.example/g01284/impl.SineTurns -/
def impl_SineTurns_tree (a0 : Nat) : DT (Nat) :=
  .need ((impl_IsFinite_need a0)) (
  let x0 := impl_IsFinite a0;
  .ask (!x0)
  (
   let x1 := math_NaN ;
   .need ((fconvOk .f64 x1 .f32)) (
   let x2 := fconv .f64 x1 .f32;
   .leaf x2))
  (
   .need ((fconvOk .f32 a0 .f64)) (
   let x1 := fconv .f32 a0 .f64;
   let x2 := math_Abs x1;
   let x3 := fge .f64 x2 4841369599423283200;
   .ask x3
   (
    .leaf 0)
   (
    .need ((fconvOk .f32 a0 .f64)) (
    let x4 := fconv .f32 a0 .f64;
    let x5 := impl_sine x4;
    .need ((fconvOk .f64 x5 .f32)) (
    let x6 := fconv .f64 x5 .f32;
    .leaf x6))))))
def impl_SineTurns (a0 : Nat) : Nat := (impl_SineTurns_tree a0).val
def impl_SineTurns_need (a0 : Nat) : Bool := (impl_SineTurns_tree a0).ok
def impl_SineTurns_mk (p : Nat) : Ret := ⟨.flt .f32 p, []⟩
def impl_SineTurns_c : Con := fun args => match args with
  | [.flt .f32 a0] => some (.need (impl_SineTurns_need a0) (.leaf (impl_SineTurns_mk (impl_SineTurns a0))))
  | _ => none
set_option maxRecDepth 100000 in
theorem impl_SineTurns_ok : FunOK Try.prog 44 impl_SineTurns_c.fn := by
  refine con_ok (Γ := gam [(43, impl_IsFinite_c), (83, math_NaN_c), (84, math_Abs_c), (85, impl_sine_c)]) (gam_cons impl_IsFinite_ok (gam_cons math_NaN_ok (gam_cons math_Abs_ok (gam_cons impl_sine_ok (gam_nil))))) tab_ok (by kernel_rfl) Try.func44 (by kernel_rfl) (by kernel_rfl) Try.ntmps44 Try.results44 (loopsOK_none rfl _) 100000 fun args t h => ?_
  unfold impl_SineTurns_c at h
  split at h
  · rename_i a0
    cases h
    exact ⟨rfl, agree_need (mk := impl_SineTurns_mk) (t := impl_SineTurns_tree a0) (by unfold Agree; kernel_rfl)⟩
  · cases h

-- FAILED 69 loop.example/g01284/impl.TurnBodies$1: param type 0

-- FAILED 70 loop.example/g01284/impl.TurnBodies$2: param type 0

/-- loop.example/g01284/impl.TurnBodies$1 -/
def impl_TurnBodies_1_tree (a0 : Vec) (a1_0 : Nat) (a2_0 : Nat) : DT (Vec) :=
  let x0 := fmul .f32 a1_0 a0.X;
  let x1 := fmul .f32 a2_0 a0.Y;
  let x2 := fsub .f32 x0 x1;
  let x3 := fmul .f32 a2_0 a0.X;
  let x4 := fmul .f32 a1_0 a0.Y;
  let x5 := fadd .f32 x3 x4;
  .leaf ((⟨x2, x5, a0.Z⟩ : Vec))
def impl_TurnBodies_1 (a0 : Vec) (a1_0 : Nat) (a2_0 : Nat) : Vec := (impl_TurnBodies_1_tree a0 a1_0 a2_0).val
def impl_TurnBodies_1_mk (p : Vec) : Ret := ⟨.agg [.flt .f32 p.X, .flt .f32 p.Y, .flt .f32 p.Z], []⟩
def impl_TurnBodies_1_c : Con := fun args => match args with
  | [.agg [.flt .f32 a0_0, .flt .f32 a0_1, .flt .f32 a0_2], .vcell [.flt .f32 a1_0] 0, .vcell [.flt .f32 a2_0] 0] => some (.leaf (impl_TurnBodies_1_mk (impl_TurnBodies_1 (⟨a0_0, a0_1, a0_2⟩ : Vec) a1_0 a2_0)))
  | _ => none
set_option maxRecDepth 100000 in
theorem impl_TurnBodies_1_ok : FunOK Try.prog 69 impl_TurnBodies_1_c.fn := by
  refine con_ok (Γ := gam []) (gam_nil) tab_ok (by kernel_rfl) Try.func69 (by kernel_rfl) (by kernel_rfl) Try.ntmps69 Try.results69 (loopsOK_none rfl _) 100000 fun args t h => ?_
  unfold impl_TurnBodies_1_c at h
  split at h
  · rename_i a0_0 a0_1 a0_2 a1_0 a2_0
    cases h
    exact ⟨rfl, agree_tot (mk := impl_TurnBodies_1_mk) (t := impl_TurnBodies_1_tree (⟨a0_0, a0_1, a0_2⟩ : Vec) a1_0 a2_0) (by unfold Agree; kernel_rfl) (by kernel_rfl)⟩
  · cases h

/-- loop.example/g01284/impl.TurnBodies$2 -/
def impl_TurnBodies_2_tree (a0 : Body) (a1_0 : Nat) (a1_1 : Nat) : DT (Body) :=
  let x0 := impl_TurnBodies_1 (⟨a0.At.X, a0.At.Y, a0.At.Z⟩ : Vec) a1_0 a1_1;
  let x1 := impl_TurnBodies_1 (⟨a0.Speed.X, a0.Speed.Y, a0.Speed.Z⟩ : Vec) a1_0 a1_1;
  .leaf ((⟨⟨x0.X, x0.Y, x0.Z⟩, ⟨x1.X, x1.Y, x1.Z⟩, a0.Mass⟩ : Body))
def impl_TurnBodies_2 (a0 : Body) (a1_0 : Nat) (a1_1 : Nat) : Body := (impl_TurnBodies_2_tree a0 a1_0 a1_1).val
def impl_TurnBodies_2_mk (p : Body) : Ret := ⟨.agg [.flt .f32 p.At.X, .flt .f32 p.At.Y, .flt .f32 p.At.Z, .flt .f32 p.Speed.X, .flt .f32 p.Speed.Y, .flt .f32 p.Speed.Z, .flt .f32 p.Mass], []⟩
def impl_TurnBodies_2_c : Con := fun args => match args with
  | [.agg [.flt .f32 a0_0, .flt .f32 a0_1, .flt .f32 a0_2, .flt .f32 a0_3, .flt .f32 a0_4, .flt .f32 a0_5, .flt .f32 a0_6], .vcell [.func (.func 69) [] [.vcell [.flt .f32 a1_0] 0, .vcell [.flt .f32 a1_1] 0]] 0] => some (.leaf (impl_TurnBodies_2_mk (impl_TurnBodies_2 (⟨⟨a0_0, a0_1, a0_2⟩, ⟨a0_3, a0_4, a0_5⟩, a0_6⟩ : Body) a1_0 a1_1)))
  | _ => none
set_option maxRecDepth 100000 in
theorem impl_TurnBodies_2_ok : FunOK Try.prog 70 impl_TurnBodies_2_c.fn := by
  refine con_ok (Γ := gam [(69, impl_TurnBodies_1_c)]) (gam_cons impl_TurnBodies_1_ok (gam_nil)) tab_ok (by kernel_rfl) Try.func70 (by kernel_rfl) (by kernel_rfl) Try.ntmps70 Try.results70 (loopsOK_none rfl _) 100000 fun args t h => ?_
  unfold impl_TurnBodies_2_c at h
  split at h
  · rename_i a0_0 a0_1 a0_2 a0_3 a0_4 a0_5 a0_6 a1_0 a1_1
    cases h
    exact ⟨rfl, agree_tot (mk := impl_TurnBodies_2_mk) (t := impl_TurnBodies_2_tree (⟨⟨a0_0, a0_1, a0_2⟩, ⟨a0_3, a0_4, a0_5⟩, a0_6⟩ : Body) a1_0 a1_1) (by unfold Agree; kernel_rfl) (by kernel_rfl)⟩
  · cases h

/-- a loop of impl_changed_impl_TurnBodies_2 -/
def impl_changed_impl_TurnBodies_2_loop0_step (p : Nat × Nat × List Body × Int) (s : Int × List Body) : Round (Int × List Body) (List Body) :=
  let x0 := decide (s.1 < p.2.2.2);
  .ask x0
  (
   .need ((decide (0 ≤ s.1) && decide (s.1 < ((List.length p.2.2.1 : Nat) : Int)))) (
   let x1 := List.getD p.2.2.1 (Int.toNat s.1) default;
   let x2 := impl_TurnBodies_2 (⟨⟨x1.At.X, x1.At.Y, x1.At.Z⟩, ⟨x1.Speed.X, x1.Speed.Y, x1.Speed.Z⟩, x1.Mass⟩ : Body) p.1 p.2.1;
   .need ((decide ((List.length s.2 + List.length [(⟨⟨x2.At.X, x2.At.Y, x2.At.Z⟩, ⟨x2.Speed.X, x2.Speed.Y, x2.Speed.Z⟩, x2.Mass⟩ : Body)]) * 28 ≤ 140737488355328) && decide (List.length s.2 + List.length [(⟨⟨x2.At.X, x2.At.Y, x2.At.Z⟩, ⟨x2.Speed.X, x2.Speed.Y, x2.Speed.Z⟩, x2.Mass⟩ : Body)] ≤ 9223372036854775807))) (
   let x3 := s.2 ++ [(⟨⟨x2.At.X, x2.At.Y, x2.At.Z⟩, ⟨x2.Speed.X, x2.Speed.Y, x2.Speed.Z⟩, x2.Mass⟩ : Body)];
   let x4 := IntKind.wrap .i64 (s.1 + 1);
   .leaf (.inl (x4, x3), [81]))))
  (
   .leaf (.inr s.2, [0]))
def impl_changed_impl_TurnBodies_2_loop0_L (p : Nat × Nat × List Body × Int) : LoopS (Int × List Body) (List Body) := { tl := fun s => [.junk, .func (.func 70) [] [.vcell [.func (.func 69) [] [.vcell [.flt .f32 p.1] 0, .vcell [.flt .f32 p.2.1] 0]] 0], .junk, .junk, .junk, .junk, .own 0, .junk, .junk, .junk, .junk, .junk, .junk, .vslc 1 .body p.2.2.1, .int .i64 p.2.2.2, .int .i64 s.1], hl := fun s => [some (.typed 72 .body s.2)], ex := fun r => .exit 0, otl := fun r => [.junk, .junk, .junk, .junk, .junk, .junk, .own 0], ohl := fun r => [some (.typed 72 .body r)] }
def impl_changed_impl_TurnBodies_2_loop0_ext : St → Option ((Nat × Nat × List Body × Int) × (Int × List Body) × List Nat) := fun S => match (S.tm 1).unK, (S.tm 6).unK, (S.tm 13).unK, (S.tm 14).unK, (S.tm 15).unK with
  | .func (.func 70) [] [.vcell [.func (.func 69) [] [.vcell [.flt .f32 q0] 0, .vcell [.flt .f32 q1] 0]] 0], .own i0, .vslc 1 .body q2, .int .i64 q3, .int .i64 q4 => (match S.hp i0 with
    | some (.typed 72 .body q5) => some ((q0, q1, q2, q3), (q4, q5), [i0])
    | _ => none)
  | _, _, _, _, _ => none
def impl_changed_impl_TurnBodies_2_loop0_post (p : Nat × Nat × List Body × Int) (r : List Body) : DT (Ex × St) := .leaf (.exit 0, LSt [.junk, .junk, .junk, .junk, .junk, .junk, .own 0] [some (.typed 72 .body r)])
def impl_changed_impl_TurnBodies_2_loop0 (p : Nat × Nat × List Body × Int) (s : Int × List Body) : List Body := loopVal (impl_changed_impl_TurnBodies_2_loop0_step p) s
def impl_changed_impl_TurnBodies_2_loop0_ends (p : Nat × Nat × List Body × Int) (s : Int × List Body) : Bool := loopEnds (impl_changed_impl_TurnBodies_2_loop0_step p) s
def impl_changed_impl_TurnBodies_2_loop0_F : LoopF := loopF impl_changed_impl_TurnBodies_2_loop0_step impl_changed_impl_TurnBodies_2_loop0_ext impl_changed_impl_TurnBodies_2_loop0_post
set_option maxRecDepth 100000 in
theorem impl_changed_impl_TurnBodies_2_loop0_hext : ∀ S p s fl, impl_changed_impl_TurnBodies_2_loop0_ext S = some (p, s, fl) → Norm S fl ((impl_changed_impl_TurnBodies_2_loop0_L p).tl s) ((impl_changed_impl_TurnBodies_2_loop0_L p).hl s) (impl_changed_impl_TurnBodies_2_loop0_L p).gl := by
  intro S p s fl h
  unfold impl_changed_impl_TurnBodies_2_loop0_ext at h
  (repeat' split at h) <;> first
    | (cases h; constructor <;> simp_all [impl_changed_impl_TurnBodies_2_loop0_L, keepT, keepH, rens, renH, PV.ren, Blk.ren, fOf, lget, nodup, natIn, lenEq, gtm, PV.unK])
    | cases h
set_option maxRecDepth 100000 in
theorem impl_changed_impl_TurnBodies_2_loop0_hpost : ∀ p r e S', (impl_changed_impl_TurnBodies_2_loop0_post p r).get = some (e, S') → e = (impl_changed_impl_TurnBodies_2_loop0_L p).ex r ∧ S' = LSt ((impl_changed_impl_TurnBodies_2_loop0_L p).otl r) ((impl_changed_impl_TurnBodies_2_loop0_L p).ohl r) ((impl_changed_impl_TurnBodies_2_loop0_L p).ogl r) := by
  intro p r e S' h
  unfold impl_changed_impl_TurnBodies_2_loop0_post at h
  simp only [DT.get, Option.some.injEq, Prod.mk.injEq] at h; exact ⟨h.1.symm, h.2.symm⟩

def impl_changed_impl_TurnBodies_2_loops : Nat → Option LoopF := loopTab [(5, impl_changed_impl_TurnBodies_2_loop0_F)]
set_option maxRecDepth 100000 in
theorem impl_changed_impl_TurnBodies_2_l0 : LoopOK Try.prog ⟨gam [(64, impl_AreBodies_c), (70, impl_TurnBodies_2_c), (101, impl_asBodies_c)], tab, 30, impl_changed_impl_TurnBodies_2_loops⟩ (lp Try.f67 0) :=
  loopOK_some (F := impl_changed_impl_TurnBodies_2_loop0_F) (by kernel_rfl) (loopF_ok (E := ⟨gam [(64, impl_AreBodies_c), (70, impl_TurnBodies_2_c), (101, impl_asBodies_c)], tab, 30, impl_changed_impl_TurnBodies_2_loops⟩) ⟨gam_cons impl_AreBodies_ok (gam_cons impl_TurnBodies_2_ok (gam_cons impl_asBodies_ok (gam_nil))), tab_ok, by kernel_rfl⟩ (fuel := 100000) (loopsOK_list (l := []) (by kernel_rfl) trivial) (L := impl_changed_impl_TurnBodies_2_loop0_L) (fun p s => by unfold AgreeL; exact ⟨by kernel_rfl, by kernel_rfl⟩) (fun _ _ h => Ex.noConfusion h) impl_changed_impl_TurnBodies_2_loop0_hext impl_changed_impl_TurnBodies_2_loop0_hpost)
/-- loop.example/g01284/impl.changed -/
def impl_changed_impl_TurnBodies_2_tree (a0 : List Body) (a1_0 : Nat) (a1_1 : Nat) : DT ((Unit) ⊕ (List Body)) :=
  .need ((impl_AreBodies_need a0)) (
  let x0 := impl_AreBodies a0;
  .ask (!x0)
  (
   .leaf (.inl ()))
  (
   let x1 := ((List.length a0 : Nat) : Int);
   .need ((impl_changed_impl_TurnBodies_2_loop0_ends (a1_0, a1_1, a0, x1) (0, []))) (
   let x2 := impl_changed_impl_TurnBodies_2_loop0 (a1_0, a1_1, a0, x1) (0, []);
   .need ((impl_asBodies_need x2)) (
   let x3 := impl_asBodies x2;
   .ask ((isL x3))
   (
    .leaf (.inl ()))
   (
    .leaf (.inr x2))))))
def impl_changed_impl_TurnBodies_2 (a0 : List Body) (a1_0 : Nat) (a1_1 : Nat) : (Unit) ⊕ (List Body) := (impl_changed_impl_TurnBodies_2_tree a0 a1_0 a1_1).val
def impl_changed_impl_TurnBodies_2_need (a0 : List Body) (a1_0 : Nat) (a1_1 : Nat) : Bool := (impl_changed_impl_TurnBodies_2_tree a0 a1_0 a1_1).ok
def impl_changed_impl_TurnBodies_2_mk0 (p : Unit) : Ret := ⟨.tup [.nils, .bool false], []⟩
def impl_changed_impl_TurnBodies_2_mk1 (p : List Body) : Ret := ⟨.tup [.own 0, .bool true], [.typed 72 .body p]⟩
def impl_changed_impl_TurnBodies_2_mk : (Unit) ⊕ (List Body) → Ret := fun v => match v with
  | (.inl p) => impl_changed_impl_TurnBodies_2_mk0 p
  | (.inr p) => impl_changed_impl_TurnBodies_2_mk1 p
def impl_changed_impl_TurnBodies_2_forms (v : (Unit) ⊕ (List Body)) : DT Ret := .ask (isL v) (.leaf (impl_changed_impl_TurnBodies_2_mk0 (leftD v))) (.leaf (impl_changed_impl_TurnBodies_2_mk1 (rightD v)))
theorem impl_changed_impl_TurnBodies_2_forms_get : ∀ v, (impl_changed_impl_TurnBodies_2_forms v).get = some (impl_changed_impl_TurnBodies_2_mk v) := by
  intro v
  rcases v with v | v <;> rfl
def impl_changed_impl_TurnBodies_2_c0 : Con := fun args => match args with
  | [.vslc 1 .body a0, .func (.func 70) [] [.vcell [.func (.func 69) [] [.vcell [.flt .f32 a1_0] 0, .vcell [.flt .f32 a1_1] 0]] 0]] => some (.need (impl_changed_impl_TurnBodies_2_need a0 a1_0 a1_1) (impl_changed_impl_TurnBodies_2_forms (impl_changed_impl_TurnBodies_2 a0 a1_0 a1_1)))
  | _ => none
set_option maxRecDepth 100000 in
theorem impl_changed_impl_TurnBodies_2_ok0 : FunOK Try.prog 67 impl_changed_impl_TurnBodies_2_c0.fn := by
  refine con_ok (Γ := gam [(64, impl_AreBodies_c), (70, impl_TurnBodies_2_c), (101, impl_asBodies_c)]) (gam_cons impl_AreBodies_ok (gam_cons impl_TurnBodies_2_ok (gam_cons impl_asBodies_ok (gam_nil)))) tab_ok (by kernel_rfl) Try.func67 (by kernel_rfl) (by kernel_rfl) Try.ntmps67 Try.results67 (loops := impl_changed_impl_TurnBodies_2_loops) (loopsOK_list (l := [lp Try.f67 0]) (by kernel_rfl) ⟨impl_changed_impl_TurnBodies_2_l0, trivial⟩) 100000 fun args t h => ?_
  unfold impl_changed_impl_TurnBodies_2_c0 at h
  split at h
  · rename_i a0 a1_0 a1_1
    cases h
    exact ⟨rfl, agree_forms (mk := impl_changed_impl_TurnBodies_2_mk) (t := impl_changed_impl_TurnBodies_2_tree a0 a1_0 a1_1) (by unfold Agree; kernel_rfl) (fun h => h) (impl_changed_impl_TurnBodies_2_forms_get _)⟩
  · cases h
def impl_changed_impl_TurnBodies_2_c : Con := fun args => impl_changed_impl_TurnBodies_2_c0 (norms 0 [.slc .body, .none] args)
set_option maxRecDepth 100000 in
theorem impl_changed_impl_TurnBodies_2_ok : FunOK Try.prog 67 impl_changed_impl_TurnBodies_2_c.fn := con_norm [.slc .body, .none] impl_changed_impl_TurnBodies_2_ok0

/-- loop.example/g01284/impl.TurnBodies -/
def impl_TurnBodies_tree (a0 : List Body) (a1 : Nat) : DT ((Unit) ⊕ (List Body)) :=
  .need ((impl_IsFinite_need a1)) (
  let x0 := impl_IsFinite a1;
  .ask (!x0)
  (
   .leaf (.inl ()))
  (
   let x1 := fadd .f32 a1 1048576000;
   .need ((impl_SineTurns_need x1)) (
   let x2 := impl_SineTurns x1;
   .need ((impl_SineTurns_need a1)) (
   let x3 := impl_SineTurns a1;
   .need ((impl_changed_impl_TurnBodies_2_need a0 x2 x3)) (
   let x4 := impl_changed_impl_TurnBodies_2 a0 x2 x3;
   .ask ((isL x4))
   (
    .leaf (.inl ()))
   (
    .leaf (.inr ((rightD x4)))))))))
def impl_TurnBodies (a0 : List Body) (a1 : Nat) : (Unit) ⊕ (List Body) := (impl_TurnBodies_tree a0 a1).val
def impl_TurnBodies_need (a0 : List Body) (a1 : Nat) : Bool := (impl_TurnBodies_tree a0 a1).ok
def impl_TurnBodies_mk0 (p : Unit) : Ret := ⟨.tup [.nils, .bool false], []⟩
def impl_TurnBodies_mk1 (p : List Body) : Ret := ⟨.tup [.own 0, .bool true], [.typed 72 .body p]⟩
def impl_TurnBodies_mk : (Unit) ⊕ (List Body) → Ret := fun v => match v with
  | (.inl p) => impl_TurnBodies_mk0 p
  | (.inr p) => impl_TurnBodies_mk1 p
def impl_TurnBodies_forms (v : (Unit) ⊕ (List Body)) : DT Ret := .ask (isL v) (.leaf (impl_TurnBodies_mk0 (leftD v))) (.leaf (impl_TurnBodies_mk1 (rightD v)))
theorem impl_TurnBodies_forms_get : ∀ v, (impl_TurnBodies_forms v).get = some (impl_TurnBodies_mk v) := by
  intro v
  rcases v with v | v <;> rfl
def impl_TurnBodies_c0 : Con := fun args => match args with
  | [.vslc 1 .body a0, .flt .f32 a1] => some (.need (impl_TurnBodies_need a0 a1) (impl_TurnBodies_forms (impl_TurnBodies a0 a1)))
  | _ => none
set_option maxRecDepth 100000 in
theorem impl_TurnBodies_ok0 : FunOK Try.prog 27 impl_TurnBodies_c0.fn := by
  refine con_ok (Γ := gam [(43, impl_IsFinite_c), (44, impl_SineTurns_c), (67, impl_changed_impl_TurnBodies_2_c)]) (gam_cons impl_IsFinite_ok (gam_cons impl_SineTurns_ok (gam_cons impl_changed_impl_TurnBodies_2_ok (gam_nil)))) tab_ok (by kernel_rfl) Try.func27 (by kernel_rfl) (by kernel_rfl) Try.ntmps27 Try.results27 (loopsOK_none rfl _) 100000 fun args t h => ?_
  unfold impl_TurnBodies_c0 at h
  split at h
  · rename_i a0 a1
    cases h
    exact ⟨rfl, agree_forms (mk := impl_TurnBodies_mk) (t := impl_TurnBodies_tree a0 a1) (by unfold Agree; kernel_rfl) (fun h => h) (impl_TurnBodies_forms_get _)⟩
  · cases h
def impl_TurnBodies_c : Con := fun args => impl_TurnBodies_c0 (norms 0 [.slc .body, .none] args)
set_option maxRecDepth 100000 in
theorem impl_TurnBodies_ok : FunOK Try.prog 27 impl_TurnBodies_c.fn := con_norm [.slc .body, .none] impl_TurnBodies_ok0

/-- loop.example/g01284/impl.SizeOfVector -/
def impl_SizeOfVector_tree (a0 : Vec) : DT (Nat) :=
  let x0 := impl_InnerOf (⟨a0.X, a0.Y, a0.Z⟩ : Vec) (⟨a0.X, a0.Y, a0.Z⟩ : Vec);
  .need ((impl_RootNumber_need x0)) (
  let x1 := impl_RootNumber x0;
  .leaf x1)
def impl_SizeOfVector (a0 : Vec) : Nat := (impl_SizeOfVector_tree a0).val
def impl_SizeOfVector_need (a0 : Vec) : Bool := (impl_SizeOfVector_tree a0).ok
def impl_SizeOfVector_mk (p : Nat) : Ret := ⟨.flt .f32 p, []⟩
def impl_SizeOfVector_c : Con := fun args => match args with
  | [.agg [.flt .f32 a0_0, .flt .f32 a0_1, .flt .f32 a0_2]] => some (.need (impl_SizeOfVector_need (⟨a0_0, a0_1, a0_2⟩ : Vec)) (.leaf (impl_SizeOfVector_mk (impl_SizeOfVector (⟨a0_0, a0_1, a0_2⟩ : Vec)))))
  | _ => none
set_option maxRecDepth 100000 in
theorem impl_SizeOfVector_ok : FunOK Try.prog 29 impl_SizeOfVector_c.fn := by
  refine con_ok (Γ := gam [(60, impl_InnerOf_c), (53, impl_RootNumber_c)]) (gam_cons impl_InnerOf_ok (gam_cons impl_RootNumber_ok (gam_nil))) tab_ok (by kernel_rfl) Try.func29 (by kernel_rfl) (by kernel_rfl) Try.ntmps29 Try.results29 (loopsOK_none rfl _) 100000 fun args t h => ?_
  unfold impl_SizeOfVector_c at h
  split at h
  · rename_i a0_0 a0_1 a0_2
    cases h
    exact ⟨rfl, agree_need (mk := impl_SizeOfVector_mk) (t := impl_SizeOfVector_tree (⟨a0_0, a0_1, a0_2⟩ : Vec)) (by unfold Agree; kernel_rfl)⟩
  · cases h

/-- loop.example/g01284/laws.r8Far -/
def laws_r8Far_tree (a0 : Vec) (a1 : Vec) : DT (Nat) :=
  let x0 := impl_LessVectors (⟨a0.X, a0.Y, a0.Z⟩ : Vec) (⟨a1.X, a1.Y, a1.Z⟩ : Vec);
  .need ((impl_SizeOfVector_need (⟨x0.X, x0.Y, x0.Z⟩ : Vec))) (
  let x1 := impl_SizeOfVector (⟨x0.X, x0.Y, x0.Z⟩ : Vec);
  .need ((fconvOk .f32 x1 .f64)) (
  let x2 := fconv .f32 x1 .f64;
  .leaf x2))
def laws_r8Far (a0 : Vec) (a1 : Vec) : Nat := (laws_r8Far_tree a0 a1).val
def laws_r8Far_need (a0 : Vec) (a1 : Vec) : Bool := (laws_r8Far_tree a0 a1).ok
def laws_r8Far_mk (p : Nat) : Ret := ⟨.flt .f64 p, []⟩
def laws_r8Far_c : Con := fun args => match args with
  | [.agg [.flt .f32 a0_0, .flt .f32 a0_1, .flt .f32 a0_2], .agg [.flt .f32 a1_0, .flt .f32 a1_1, .flt .f32 a1_2]] => some (.need (laws_r8Far_need (⟨a0_0, a0_1, a0_2⟩ : Vec) (⟨a1_0, a1_1, a1_2⟩ : Vec)) (.leaf (laws_r8Far_mk (laws_r8Far (⟨a0_0, a0_1, a0_2⟩ : Vec) (⟨a1_0, a1_1, a1_2⟩ : Vec)))))
  | _ => none
set_option maxRecDepth 100000 in
theorem laws_r8Far_ok : FunOK Try.prog 30 laws_r8Far_c.fn := by
  refine con_ok (Γ := gam [(61, impl_LessVectors_c), (29, impl_SizeOfVector_c)]) (gam_cons impl_LessVectors_ok (gam_cons impl_SizeOfVector_ok (gam_nil))) tab_ok (by kernel_rfl) Try.func30 (by kernel_rfl) (by kernel_rfl) Try.ntmps30 Try.results30 (loopsOK_none rfl _) 100000 fun args t h => ?_
  unfold laws_r8Far_c at h
  split at h
  · rename_i a0_0 a0_1 a0_2 a1_0 a1_1 a1_2
    cases h
    exact ⟨rfl, agree_need (mk := laws_r8Far_mk) (t := laws_r8Far_tree (⟨a0_0, a0_1, a0_2⟩ : Vec) (⟨a1_0, a1_1, a1_2⟩ : Vec)) (by unfold Agree; kernel_rfl)⟩
  · cases h

/-- loop.example/g01284/laws.r8Gap -/
def laws_r8Gap_tree (a0 : Nat) (a1 : Nat) : DT (Nat) :=
  let x0 := fsub .f64 a0 a1;
  let x1 := fsub .f64 a1 a0;
  .need (ordOk .f64 x0 x1) (
  let x2 := fmax .f64 x0 x1;
  .leaf x2)
def laws_r8Gap (a0 : Nat) (a1 : Nat) : Nat := (laws_r8Gap_tree a0 a1).val
def laws_r8Gap_need (a0 : Nat) (a1 : Nat) : Bool := (laws_r8Gap_tree a0 a1).ok
def laws_r8Gap_mk (p : Nat) : Ret := ⟨.flt .f64 p, []⟩
def laws_r8Gap_c : Con := fun args => match args with
  | [.flt .f64 a0, .flt .f64 a1] => some (.need (laws_r8Gap_need a0 a1) (.leaf (laws_r8Gap_mk (laws_r8Gap a0 a1))))
  | _ => none
set_option maxRecDepth 100000 in
theorem laws_r8Gap_ok : FunOK Try.prog 31 laws_r8Gap_c.fn := by
  refine con_ok (Γ := gam []) (gam_nil) tab_ok (by kernel_rfl) Try.func31 (by kernel_rfl) (by kernel_rfl) Try.ntmps31 Try.results31 (loopsOK_none rfl _) 100000 fun args t h => ?_
  unfold laws_r8Gap_c at h
  split at h
  · rename_i a0 a1
    cases h
    exact ⟨rfl, agree_need (mk := laws_r8Gap_mk) (t := laws_r8Gap_tree a0 a1) (by unfold Agree; kernel_rfl)⟩
  · cases h

/-- loop.example/g01284/impl.PullAt -/
def impl_PullAt_tree (a0 : List Body) (a1 : Vec) (a2 : Nat) : DT (Vec × Bool) :=
  .need ((impl_AreBodies_need a0)) (
  let x0 := impl_AreBodies a0;
  .ask (!x0)
  (
   .leaf ((⟨0, 0, 0⟩ : Vec), false))
  (
   .need ((impl_isCore_need a2)) (
   let x1 := impl_isCore a2;
   .ask (!x1)
   (
    .leaf ((⟨0, 0, 0⟩ : Vec), false))
   (
    .need ((impl_isFiniteVector_need (⟨a1.X, a1.Y, a1.Z⟩ : Vec))) (
    let x2 := impl_isFiniteVector (⟨a1.X, a1.Y, a1.Z⟩ : Vec);
    .ask (!x2)
    (
     .leaf ((⟨0, 0, 0⟩ : Vec), false))
    (
     .need ((impl_pull_need a0 (-1) (⟨a1.X, a1.Y, a1.Z⟩ : Vec) a2)) (
     let x3 := impl_pull a0 (-1) (⟨a1.X, a1.Y, a1.Z⟩ : Vec) a2;
     .need ((impl_isFiniteVector_need (⟨x3.X, x3.Y, x3.Z⟩ : Vec))) (
     let x4 := impl_isFiniteVector (⟨x3.X, x3.Y, x3.Z⟩ : Vec);
     .ask (!x4)
     (
      .leaf ((⟨0, 0, 0⟩ : Vec), false))
     (
      .leaf ((⟨x3.X, x3.Y, x3.Z⟩ : Vec), true))))))))))
def impl_PullAt (a0 : List Body) (a1 : Vec) (a2 : Nat) : Vec × Bool := (impl_PullAt_tree a0 a1 a2).val
def impl_PullAt_need (a0 : List Body) (a1 : Vec) (a2 : Nat) : Bool := (impl_PullAt_tree a0 a1 a2).ok
def impl_PullAt_mk (p : Vec × Bool) : Ret := ⟨.tup [.agg [.flt .f32 p.1.X, .flt .f32 p.1.Y, .flt .f32 p.1.Z], .bool p.2], []⟩
def impl_PullAt_c0 : Con := fun args => match args with
  | [.vslc 1 .body a0, .agg [.flt .f32 a1_0, .flt .f32 a1_1, .flt .f32 a1_2], .flt .f32 a2] => some (.need (impl_PullAt_need a0 (⟨a1_0, a1_1, a1_2⟩ : Vec) a2) (.leaf (impl_PullAt_mk (impl_PullAt a0 (⟨a1_0, a1_1, a1_2⟩ : Vec) a2))))
  | _ => none
set_option maxRecDepth 100000 in
theorem impl_PullAt_ok0 : FunOK Try.prog 32 impl_PullAt_c0.fn := by
  refine con_ok (Γ := gam [(64, impl_AreBodies_c), (65, impl_isCore_c), (51, impl_isFiniteVector_c), (71, impl_pull_c)]) (gam_cons impl_AreBodies_ok (gam_cons impl_isCore_ok (gam_cons impl_isFiniteVector_ok (gam_cons impl_pull_ok (gam_nil))))) tab_ok (by kernel_rfl) Try.func32 (by kernel_rfl) (by kernel_rfl) Try.ntmps32 Try.results32 (loopsOK_none rfl _) 100000 fun args t h => ?_
  unfold impl_PullAt_c0 at h
  split at h
  · rename_i a0 a1_0 a1_1 a1_2 a2
    cases h
    exact ⟨rfl, agree_need (mk := impl_PullAt_mk) (t := impl_PullAt_tree a0 (⟨a1_0, a1_1, a1_2⟩ : Vec) a2) (by unfold Agree; kernel_rfl)⟩
  · cases h
def impl_PullAt_c : Con := fun args => impl_PullAt_c0 (norms 0 [.slc .body, .none, .none] args)
set_option maxRecDepth 100000 in
theorem impl_PullAt_ok : FunOK Try.prog 32 impl_PullAt_c.fn := con_norm [.slc .body, .none, .none] impl_PullAt_ok0

/-- loop.example/g01284/impl.MirrorBodies$1 -/
def impl_MirrorBodies_1_tree (a0 : Body) : DT (Body) :=
  let x0 := fneg .f32 a0.At.Z;
  let x1 := fneg .f32 a0.Speed.Z;
  .leaf ((⟨⟨a0.At.X, a0.At.Y, x0⟩, ⟨a0.Speed.X, a0.Speed.Y, x1⟩, a0.Mass⟩ : Body))
def impl_MirrorBodies_1 (a0 : Body) : Body := (impl_MirrorBodies_1_tree a0).val
def impl_MirrorBodies_1_mk (p : Body) : Ret := ⟨.agg [.flt .f32 p.At.X, .flt .f32 p.At.Y, .flt .f32 p.At.Z, .flt .f32 p.Speed.X, .flt .f32 p.Speed.Y, .flt .f32 p.Speed.Z, .flt .f32 p.Mass], []⟩
def impl_MirrorBodies_1_c : Con := fun args => match args with
  | [.agg [.flt .f32 a0_0, .flt .f32 a0_1, .flt .f32 a0_2, .flt .f32 a0_3, .flt .f32 a0_4, .flt .f32 a0_5, .flt .f32 a0_6]] => some (.leaf (impl_MirrorBodies_1_mk (impl_MirrorBodies_1 (⟨⟨a0_0, a0_1, a0_2⟩, ⟨a0_3, a0_4, a0_5⟩, a0_6⟩ : Body))))
  | _ => none
set_option maxRecDepth 100000 in
theorem impl_MirrorBodies_1_ok : FunOK Try.prog 72 impl_MirrorBodies_1_c.fn := by
  refine con_ok (Γ := gam []) (gam_nil) tab_ok (by kernel_rfl) Try.func72 (by kernel_rfl) (by kernel_rfl) Try.ntmps72 Try.results72 (loopsOK_none rfl _) 100000 fun args t h => ?_
  unfold impl_MirrorBodies_1_c at h
  split at h
  · rename_i a0_0 a0_1 a0_2 a0_3 a0_4 a0_5 a0_6
    cases h
    exact ⟨rfl, agree_tot (mk := impl_MirrorBodies_1_mk) (t := impl_MirrorBodies_1_tree (⟨⟨a0_0, a0_1, a0_2⟩, ⟨a0_3, a0_4, a0_5⟩, a0_6⟩ : Body)) (by unfold Agree; kernel_rfl) (by kernel_rfl)⟩
  · cases h

/-- a loop of impl_changed_impl_MirrorBodies_1 -/
def impl_changed_impl_MirrorBodies_1_loop0_step (p : List Body × Int) (s : Int × List Body) : Round (Int × List Body) (List Body) :=
  let x0 := decide (s.1 < p.2);
  .ask x0
  (
   .need ((decide (0 ≤ s.1) && decide (s.1 < ((List.length p.1 : Nat) : Int)))) (
   let x1 := List.getD p.1 (Int.toNat s.1) default;
   let x2 := impl_MirrorBodies_1 (⟨⟨x1.At.X, x1.At.Y, x1.At.Z⟩, ⟨x1.Speed.X, x1.Speed.Y, x1.Speed.Z⟩, x1.Mass⟩ : Body);
   .need ((decide ((List.length s.2 + List.length [(⟨⟨x2.At.X, x2.At.Y, x2.At.Z⟩, ⟨x2.Speed.X, x2.Speed.Y, x2.Speed.Z⟩, x2.Mass⟩ : Body)]) * 28 ≤ 140737488355328) && decide (List.length s.2 + List.length [(⟨⟨x2.At.X, x2.At.Y, x2.At.Z⟩, ⟨x2.Speed.X, x2.Speed.Y, x2.Speed.Z⟩, x2.Mass⟩ : Body)] ≤ 9223372036854775807))) (
   let x3 := s.2 ++ [(⟨⟨x2.At.X, x2.At.Y, x2.At.Z⟩, ⟨x2.Speed.X, x2.Speed.Y, x2.Speed.Z⟩, x2.Mass⟩ : Body)];
   let x4 := IntKind.wrap .i64 (s.1 + 1);
   .leaf (.inl (x4, x3), [81]))))
  (
   .leaf (.inr s.2, [0]))
def impl_changed_impl_MirrorBodies_1_loop0_L (p : List Body × Int) : LoopS (Int × List Body) (List Body) := { tl := fun s => [.junk, .func (.func 72) [] [], .junk, .junk, .junk, .junk, .own 0, .junk, .junk, .junk, .junk, .junk, .junk, .vslc 1 .body p.1, .int .i64 p.2, .int .i64 s.1], hl := fun s => [some (.typed 72 .body s.2)], ex := fun r => .exit 0, otl := fun r => [.junk, .junk, .junk, .junk, .junk, .junk, .own 0], ohl := fun r => [some (.typed 72 .body r)] }
def impl_changed_impl_MirrorBodies_1_loop0_ext : St → Option ((List Body × Int) × (Int × List Body) × List Nat) := fun S => match (S.tm 1).unK, (S.tm 6).unK, (S.tm 13).unK, (S.tm 14).unK, (S.tm 15).unK with
  | .func (.func 72) [] [], .own i0, .vslc 1 .body q0, .int .i64 q1, .int .i64 q2 => (match S.hp i0 with
    | some (.typed 72 .body q3) => some ((q0, q1), (q2, q3), [i0])
    | _ => none)
  | _, _, _, _, _ => none
def impl_changed_impl_MirrorBodies_1_loop0_post (p : List Body × Int) (r : List Body) : DT (Ex × St) := .leaf (.exit 0, LSt [.junk, .junk, .junk, .junk, .junk, .junk, .own 0] [some (.typed 72 .body r)])
def impl_changed_impl_MirrorBodies_1_loop0 (p : List Body × Int) (s : Int × List Body) : List Body := loopVal (impl_changed_impl_MirrorBodies_1_loop0_step p) s
def impl_changed_impl_MirrorBodies_1_loop0_ends (p : List Body × Int) (s : Int × List Body) : Bool := loopEnds (impl_changed_impl_MirrorBodies_1_loop0_step p) s
def impl_changed_impl_MirrorBodies_1_loop0_F : LoopF := loopF impl_changed_impl_MirrorBodies_1_loop0_step impl_changed_impl_MirrorBodies_1_loop0_ext impl_changed_impl_MirrorBodies_1_loop0_post
set_option maxRecDepth 100000 in
theorem impl_changed_impl_MirrorBodies_1_loop0_hext : ∀ S p s fl, impl_changed_impl_MirrorBodies_1_loop0_ext S = some (p, s, fl) → Norm S fl ((impl_changed_impl_MirrorBodies_1_loop0_L p).tl s) ((impl_changed_impl_MirrorBodies_1_loop0_L p).hl s) (impl_changed_impl_MirrorBodies_1_loop0_L p).gl := by
  intro S p s fl h
  unfold impl_changed_impl_MirrorBodies_1_loop0_ext at h
  (repeat' split at h) <;> first
    | (cases h; constructor <;> simp_all [impl_changed_impl_MirrorBodies_1_loop0_L, keepT, keepH, rens, renH, PV.ren, Blk.ren, fOf, lget, nodup, natIn, lenEq, gtm, PV.unK])
    | cases h
set_option maxRecDepth 100000 in
theorem impl_changed_impl_MirrorBodies_1_loop0_hpost : ∀ p r e S', (impl_changed_impl_MirrorBodies_1_loop0_post p r).get = some (e, S') → e = (impl_changed_impl_MirrorBodies_1_loop0_L p).ex r ∧ S' = LSt ((impl_changed_impl_MirrorBodies_1_loop0_L p).otl r) ((impl_changed_impl_MirrorBodies_1_loop0_L p).ohl r) ((impl_changed_impl_MirrorBodies_1_loop0_L p).ogl r) := by
  intro p r e S' h
  unfold impl_changed_impl_MirrorBodies_1_loop0_post at h
  simp only [DT.get, Option.some.injEq, Prod.mk.injEq] at h; exact ⟨h.1.symm, h.2.symm⟩

def impl_changed_impl_MirrorBodies_1_loops : Nat → Option LoopF := loopTab [(5, impl_changed_impl_MirrorBodies_1_loop0_F)]
set_option maxRecDepth 100000 in
theorem impl_changed_impl_MirrorBodies_1_l0 : LoopOK Try.prog ⟨gam [(64, impl_AreBodies_c), (72, impl_MirrorBodies_1_c), (101, impl_asBodies_c)], tab, 30, impl_changed_impl_MirrorBodies_1_loops⟩ (lp Try.f67 0) :=
  loopOK_some (F := impl_changed_impl_MirrorBodies_1_loop0_F) (by kernel_rfl) (loopF_ok (E := ⟨gam [(64, impl_AreBodies_c), (72, impl_MirrorBodies_1_c), (101, impl_asBodies_c)], tab, 30, impl_changed_impl_MirrorBodies_1_loops⟩) ⟨gam_cons impl_AreBodies_ok (gam_cons impl_MirrorBodies_1_ok (gam_cons impl_asBodies_ok (gam_nil))), tab_ok, by kernel_rfl⟩ (fuel := 100000) (loopsOK_list (l := []) (by kernel_rfl) trivial) (L := impl_changed_impl_MirrorBodies_1_loop0_L) (fun p s => by unfold AgreeL; exact ⟨by kernel_rfl, by kernel_rfl⟩) (fun _ _ h => Ex.noConfusion h) impl_changed_impl_MirrorBodies_1_loop0_hext impl_changed_impl_MirrorBodies_1_loop0_hpost)
/-- loop.example/g01284/impl.changed -/
def impl_changed_impl_MirrorBodies_1_tree (a0 : List Body) : DT ((Unit) ⊕ (List Body)) :=
  .need ((impl_AreBodies_need a0)) (
  let x0 := impl_AreBodies a0;
  .ask (!x0)
  (
   .leaf (.inl ()))
  (
   let x1 := ((List.length a0 : Nat) : Int);
   .need ((impl_changed_impl_MirrorBodies_1_loop0_ends (a0, x1) (0, []))) (
   let x2 := impl_changed_impl_MirrorBodies_1_loop0 (a0, x1) (0, []);
   .need ((impl_asBodies_need x2)) (
   let x3 := impl_asBodies x2;
   .ask ((isL x3))
   (
    .leaf (.inl ()))
   (
    .leaf (.inr x2))))))
def impl_changed_impl_MirrorBodies_1 (a0 : List Body) : (Unit) ⊕ (List Body) := (impl_changed_impl_MirrorBodies_1_tree a0).val
def impl_changed_impl_MirrorBodies_1_need (a0 : List Body) : Bool := (impl_changed_impl_MirrorBodies_1_tree a0).ok
def impl_changed_impl_MirrorBodies_1_mk0 (p : Unit) : Ret := ⟨.tup [.nils, .bool false], []⟩
def impl_changed_impl_MirrorBodies_1_mk1 (p : List Body) : Ret := ⟨.tup [.own 0, .bool true], [.typed 72 .body p]⟩
def impl_changed_impl_MirrorBodies_1_mk : (Unit) ⊕ (List Body) → Ret := fun v => match v with
  | (.inl p) => impl_changed_impl_MirrorBodies_1_mk0 p
  | (.inr p) => impl_changed_impl_MirrorBodies_1_mk1 p
def impl_changed_impl_MirrorBodies_1_forms (v : (Unit) ⊕ (List Body)) : DT Ret := .ask (isL v) (.leaf (impl_changed_impl_MirrorBodies_1_mk0 (leftD v))) (.leaf (impl_changed_impl_MirrorBodies_1_mk1 (rightD v)))
theorem impl_changed_impl_MirrorBodies_1_forms_get : ∀ v, (impl_changed_impl_MirrorBodies_1_forms v).get = some (impl_changed_impl_MirrorBodies_1_mk v) := by
  intro v
  rcases v with v | v <;> rfl
def impl_changed_impl_MirrorBodies_1_c0 : Con := fun args => match args with
  | [.vslc 1 .body a0, .func (.func 72) [] []] => some (.need (impl_changed_impl_MirrorBodies_1_need a0) (impl_changed_impl_MirrorBodies_1_forms (impl_changed_impl_MirrorBodies_1 a0)))
  | _ => none
set_option maxRecDepth 100000 in
theorem impl_changed_impl_MirrorBodies_1_ok0 : FunOK Try.prog 67 impl_changed_impl_MirrorBodies_1_c0.fn := by
  refine con_ok (Γ := gam [(64, impl_AreBodies_c), (72, impl_MirrorBodies_1_c), (101, impl_asBodies_c)]) (gam_cons impl_AreBodies_ok (gam_cons impl_MirrorBodies_1_ok (gam_cons impl_asBodies_ok (gam_nil)))) tab_ok (by kernel_rfl) Try.func67 (by kernel_rfl) (by kernel_rfl) Try.ntmps67 Try.results67 (loops := impl_changed_impl_MirrorBodies_1_loops) (loopsOK_list (l := [lp Try.f67 0]) (by kernel_rfl) ⟨impl_changed_impl_MirrorBodies_1_l0, trivial⟩) 100000 fun args t h => ?_
  unfold impl_changed_impl_MirrorBodies_1_c0 at h
  split at h
  · rename_i a0
    cases h
    exact ⟨rfl, agree_forms (mk := impl_changed_impl_MirrorBodies_1_mk) (t := impl_changed_impl_MirrorBodies_1_tree a0) (by unfold Agree; kernel_rfl) (fun h => h) (impl_changed_impl_MirrorBodies_1_forms_get _)⟩
  · cases h
def impl_changed_impl_MirrorBodies_1_c : Con := fun args => impl_changed_impl_MirrorBodies_1_c0 (norms 0 [.slc .body, .none] args)
set_option maxRecDepth 100000 in
theorem impl_changed_impl_MirrorBodies_1_ok : FunOK Try.prog 67 impl_changed_impl_MirrorBodies_1_c.fn := con_norm [.slc .body, .none] impl_changed_impl_MirrorBodies_1_ok0

/-- loop.example/g01284/impl.MirrorBodies -/
def impl_MirrorBodies_tree (a0 : List Body) : DT ((Unit) ⊕ (List Body)) :=
  .need ((impl_changed_impl_MirrorBodies_1_need a0 )) (
  let x0 := impl_changed_impl_MirrorBodies_1 a0 ;
  .ask ((isL x0))
  (
   .leaf (.inl ()))
  (
   .leaf (.inr ((rightD x0)))))
def impl_MirrorBodies (a0 : List Body) : (Unit) ⊕ (List Body) := (impl_MirrorBodies_tree a0).val
def impl_MirrorBodies_need (a0 : List Body) : Bool := (impl_MirrorBodies_tree a0).ok
def impl_MirrorBodies_mk0 (p : Unit) : Ret := ⟨.tup [.nils, .bool false], []⟩
def impl_MirrorBodies_mk1 (p : List Body) : Ret := ⟨.tup [.own 0, .bool true], [.typed 72 .body p]⟩
def impl_MirrorBodies_mk : (Unit) ⊕ (List Body) → Ret := fun v => match v with
  | (.inl p) => impl_MirrorBodies_mk0 p
  | (.inr p) => impl_MirrorBodies_mk1 p
def impl_MirrorBodies_forms (v : (Unit) ⊕ (List Body)) : DT Ret := .ask (isL v) (.leaf (impl_MirrorBodies_mk0 (leftD v))) (.leaf (impl_MirrorBodies_mk1 (rightD v)))
theorem impl_MirrorBodies_forms_get : ∀ v, (impl_MirrorBodies_forms v).get = some (impl_MirrorBodies_mk v) := by
  intro v
  rcases v with v | v <;> rfl
def impl_MirrorBodies_c0 : Con := fun args => match args with
  | [.vslc 1 .body a0] => some (.need (impl_MirrorBodies_need a0) (impl_MirrorBodies_forms (impl_MirrorBodies a0)))
  | _ => none
set_option maxRecDepth 100000 in
theorem impl_MirrorBodies_ok0 : FunOK Try.prog 33 impl_MirrorBodies_c0.fn := by
  refine con_ok (Γ := gam [(67, impl_changed_impl_MirrorBodies_1_c)]) (gam_cons impl_changed_impl_MirrorBodies_1_ok (gam_nil)) tab_ok (by kernel_rfl) Try.func33 (by kernel_rfl) (by kernel_rfl) Try.ntmps33 Try.results33 (loopsOK_none rfl _) 100000 fun args t h => ?_
  unfold impl_MirrorBodies_c0 at h
  split at h
  · rename_i a0
    cases h
    exact ⟨rfl, agree_forms (mk := impl_MirrorBodies_mk) (t := impl_MirrorBodies_tree a0) (by unfold Agree; kernel_rfl) (fun h => h) (impl_MirrorBodies_forms_get _)⟩
  · cases h
def impl_MirrorBodies_c : Con := fun args => impl_MirrorBodies_c0 (norms 0 [.slc .body] args)
set_option maxRecDepth 100000 in
theorem impl_MirrorBodies_ok : FunOK Try.prog 33 impl_MirrorBodies_c.fn := con_norm [.slc .body] impl_MirrorBodies_ok0

/-- loop.example/g01284/impl.within -/
def impl_within_tree (a0 : Int) (a1 : Int) (a2 : Int) : DT (Bool) :=
  let x0 := decide (a1 ≤ a0);
  .ask x0
  (
   let x1 := decide (a0 ≤ a2);
   .leaf x1)
  (
   .leaf false)
def impl_within (a0 : Int) (a1 : Int) (a2 : Int) : Bool := (impl_within_tree a0 a1 a2).val
def impl_within_mk (p : Bool) : Ret := ⟨.bool p, []⟩
def impl_within_c : Con := fun args => match args with
  | [.int .i64 a0, .int .i64 a1, .int .i64 a2] => some (.leaf (impl_within_mk (impl_within a0 a1 a2)))
  | _ => none
set_option maxRecDepth 100000 in
theorem impl_within_ok : FunOK Try.prog 81 impl_within_c.fn := by
  refine con_ok (Γ := gam []) (gam_nil) tab_ok (by kernel_rfl) Try.func81 (by kernel_rfl) (by kernel_rfl) Try.ntmps81 Try.results81 (loopsOK_none rfl _) 100000 fun args t h => ?_
  unfold impl_within_c at h
  split at h
  · rename_i a0 a1 a2
    cases h
    exact ⟨rfl, agree_tot (mk := impl_within_mk) (t := impl_within_tree a0 a1 a2) (by unfold Agree; kernel_rfl) (by kernel_rfl)⟩
  · cases h

-- FAILED 104 loop.example/g01284/impl.areIndices$1: param type 0

/-- loop.example/g01284/impl.areIndices$1 -/
def impl_areIndices_1_tree (a0 : Int) (a1_0 : Int) : DT (Bool) :=
  let x0 := IntKind.wrap .i64 (a1_0 - 1);
  let x1 := impl_within a0 0 x0;
  .leaf (!x1)
def impl_areIndices_1 (a0 : Int) (a1_0 : Int) : Bool := (impl_areIndices_1_tree a0 a1_0).val
def impl_areIndices_1_mk (p : Bool) : Ret := ⟨.bool p, []⟩
def impl_areIndices_1_c : Con := fun args => match args with
  | [.int .i64 a0, .vcell [.int .i64 a1_0] 0] => some (.leaf (impl_areIndices_1_mk (impl_areIndices_1 a0 a1_0)))
  | _ => none
set_option maxRecDepth 100000 in
theorem impl_areIndices_1_ok : FunOK Try.prog 104 impl_areIndices_1_c.fn := by
  refine con_ok (Γ := gam [(81, impl_within_c)]) (gam_cons impl_within_ok (gam_nil)) tab_ok (by kernel_rfl) Try.func104 (by kernel_rfl) (by kernel_rfl) Try.ntmps104 Try.results104 (loopsOK_none rfl _) 100000 fun args t h => ?_
  unfold impl_areIndices_1_c at h
  split at h
  · rename_i a0 a1_0
    cases h
    exact ⟨rfl, agree_tot (mk := impl_areIndices_1_mk) (t := impl_areIndices_1_tree a0 a1_0) (by unfold Agree; kernel_rfl) (by kernel_rfl)⟩
  · cases h

/-- a loop of slices_IndexFunc___int64_int64__impl_areIndices_1 -/
def slices_IndexFunc___int64_int64__impl_areIndices_1_loop0_step (p : List Int × Int × Int) (s : Int) : Round (Int) ((Int) ⊕ (Unit)) :=
  let x0 := decide (s < p.2.2);
  .ask x0
  (
   .need ((decide (0 ≤ s) && decide (s < ((List.length p.1 : Nat) : Int)))) (
   let x1 := List.getD p.1 (Int.toNat s) default;
   let x2 := impl_areIndices_1 x1 p.2.1;
   .ask x2
   (
    .leaf (.inr (.inl s), []))
   (
    let x3 := IntKind.wrap .i64 (s + 1);
    .leaf (.inl x3, []))))
  (
   .leaf (.inr (.inr ()), []))
def slices_IndexFunc___int64_int64__impl_areIndices_1_loop0_L (p : List Int × Int × Int) : LoopS (Int) ((Int) ⊕ (Unit)) := { tl := fun s => [.vslc 1 (.int .i64) p.1, .func (.func 104) [] [.vcell [.int .i64 p.2.1] 0], .junk, .junk, .junk, .junk, .junk, .int .i64 p.2.2, .int .i64 s], hl := fun s => [], ex := fun r => match r with | .inl r => .ret | .inr r => .exit 0, otl := fun r => match r with | .inl r => [.junk, .junk, .junk, .junk, .int .i64 r] | .inr r => [.junk], ohl := fun r => match r with | .inl r => [] | .inr r => [] }
def slices_IndexFunc___int64_int64__impl_areIndices_1_loop0_ext : St → Option ((List Int × Int × Int) × (Int) × List Nat) := fun S => match (S.tm 0).unK, (S.tm 1).unK, (S.tm 7).unK, (S.tm 8).unK with
  | .vslc 1 (.int .i64) q0, .func (.func 104) [] [.vcell [.int .i64 q1] 0], .int .i64 q2, .int .i64 q3 => some ((q0, q1, q2), q3, [])
  | _, _, _, _ => none
def slices_IndexFunc___int64_int64__impl_areIndices_1_loop0_post (p : List Int × Int × Int) (r : (Int) ⊕ (Unit)) : DT (Ex × St) := .ask (isL r) (.leaf (.ret, LSt [.junk, .junk, .junk, .junk, .int .i64 ((leftD r))] [])) (.leaf (.exit 0, LSt [.junk] []))
def slices_IndexFunc___int64_int64__impl_areIndices_1_loop0 (p : List Int × Int × Int) (s : Int) : (Int) ⊕ (Unit) := loopVal (slices_IndexFunc___int64_int64__impl_areIndices_1_loop0_step p) s
def slices_IndexFunc___int64_int64__impl_areIndices_1_loop0_ends (p : List Int × Int × Int) (s : Int) : Bool := loopEnds (slices_IndexFunc___int64_int64__impl_areIndices_1_loop0_step p) s
def slices_IndexFunc___int64_int64__impl_areIndices_1_loop0_F : LoopF := loopF slices_IndexFunc___int64_int64__impl_areIndices_1_loop0_step slices_IndexFunc___int64_int64__impl_areIndices_1_loop0_ext slices_IndexFunc___int64_int64__impl_areIndices_1_loop0_post
set_option maxRecDepth 100000 in
theorem slices_IndexFunc___int64_int64__impl_areIndices_1_loop0_hext : ∀ S p s fl, slices_IndexFunc___int64_int64__impl_areIndices_1_loop0_ext S = some (p, s, fl) → Norm S fl ((slices_IndexFunc___int64_int64__impl_areIndices_1_loop0_L p).tl s) ((slices_IndexFunc___int64_int64__impl_areIndices_1_loop0_L p).hl s) (slices_IndexFunc___int64_int64__impl_areIndices_1_loop0_L p).gl := by
  intro S p s fl h
  unfold slices_IndexFunc___int64_int64__impl_areIndices_1_loop0_ext at h
  (repeat' split at h) <;> first
    | (cases h; constructor <;> simp_all [slices_IndexFunc___int64_int64__impl_areIndices_1_loop0_L, keepT, keepH, rens, renH, PV.ren, Blk.ren, fOf, lget, nodup, natIn, lenEq, gtm, PV.unK])
    | cases h
set_option maxRecDepth 100000 in
theorem slices_IndexFunc___int64_int64__impl_areIndices_1_loop0_hpost : ∀ p r e S', (slices_IndexFunc___int64_int64__impl_areIndices_1_loop0_post p r).get = some (e, S') → e = (slices_IndexFunc___int64_int64__impl_areIndices_1_loop0_L p).ex r ∧ S' = LSt ((slices_IndexFunc___int64_int64__impl_areIndices_1_loop0_L p).otl r) ((slices_IndexFunc___int64_int64__impl_areIndices_1_loop0_L p).ohl r) ((slices_IndexFunc___int64_int64__impl_areIndices_1_loop0_L p).ogl r) := by
  intro p r e S' h
  unfold slices_IndexFunc___int64_int64__impl_areIndices_1_loop0_post at h
  cases r <;> (simp only [isL, DT.get, Option.some.injEq, Prod.mk.injEq] at h; exact ⟨h.1.symm, h.2.symm⟩)

def slices_IndexFunc___int64_int64__impl_areIndices_1_loops : Nat → Option LoopF := loopTab [(2, slices_IndexFunc___int64_int64__impl_areIndices_1_loop0_F)]
set_option maxRecDepth 100000 in
theorem slices_IndexFunc___int64_int64__impl_areIndices_1_l0 : LoopOK Try.prog ⟨gam [(104, impl_areIndices_1_c)], tab, 19, slices_IndexFunc___int64_int64__impl_areIndices_1_loops⟩ (lp Try.f126 0) :=
  loopOK_some (F := slices_IndexFunc___int64_int64__impl_areIndices_1_loop0_F) (by kernel_rfl) (loopF_ok (E := ⟨gam [(104, impl_areIndices_1_c)], tab, 19, slices_IndexFunc___int64_int64__impl_areIndices_1_loops⟩) ⟨gam_cons impl_areIndices_1_ok (gam_nil), tab_ok, by kernel_rfl⟩ (fuel := 100000) (loopsOK_list (l := []) (by kernel_rfl) trivial) (L := slices_IndexFunc___int64_int64__impl_areIndices_1_loop0_L) (fun p s => by unfold AgreeL; exact ⟨by kernel_rfl, by kernel_rfl⟩) (fun _ r h => by cases r <;> exact Ex.noConfusion h) slices_IndexFunc___int64_int64__impl_areIndices_1_loop0_hext slices_IndexFunc___int64_int64__impl_areIndices_1_loop0_hpost)
/-- slices.IndexFunc[[]int64,int64] -/
def slices_IndexFunc___int64_int64__impl_areIndices_1_tree (a0 : List Int) (a1_0 : Int) : DT (Int) :=
  let x0 := ((List.length a0 : Nat) : Int);
  .need ((slices_IndexFunc___int64_int64__impl_areIndices_1_loop0_ends (a0, a1_0, x0) 0)) (
  let x1 := slices_IndexFunc___int64_int64__impl_areIndices_1_loop0 (a0, a1_0, x0) 0;
  .ask ((isL x1))
  (
   .leaf ((leftD x1)))
  (
   .leaf (-1)))
def slices_IndexFunc___int64_int64__impl_areIndices_1 (a0 : List Int) (a1_0 : Int) : Int := (slices_IndexFunc___int64_int64__impl_areIndices_1_tree a0 a1_0).val
def slices_IndexFunc___int64_int64__impl_areIndices_1_need (a0 : List Int) (a1_0 : Int) : Bool := (slices_IndexFunc___int64_int64__impl_areIndices_1_tree a0 a1_0).ok
def slices_IndexFunc___int64_int64__impl_areIndices_1_mk (p : Int) : Ret := ⟨.int .i64 p, []⟩
def slices_IndexFunc___int64_int64__impl_areIndices_1_c0 : Con := fun args => match args with
  | [.vslc 1 (.int .i64) a0, .func (.func 104) [] [.vcell [.int .i64 a1_0] 0]] => some (.need (slices_IndexFunc___int64_int64__impl_areIndices_1_need a0 a1_0) (.leaf (slices_IndexFunc___int64_int64__impl_areIndices_1_mk (slices_IndexFunc___int64_int64__impl_areIndices_1 a0 a1_0))))
  | _ => none
set_option maxRecDepth 100000 in
theorem slices_IndexFunc___int64_int64__impl_areIndices_1_ok0 : FunOK Try.prog 126 slices_IndexFunc___int64_int64__impl_areIndices_1_c0.fn := by
  refine con_ok (Γ := gam [(104, impl_areIndices_1_c)]) (gam_cons impl_areIndices_1_ok (gam_nil)) tab_ok (by kernel_rfl) Try.func126 (by kernel_rfl) (by kernel_rfl) Try.ntmps126 Try.results126 (loops := slices_IndexFunc___int64_int64__impl_areIndices_1_loops) (loopsOK_list (l := [lp Try.f126 0]) (by kernel_rfl) ⟨slices_IndexFunc___int64_int64__impl_areIndices_1_l0, trivial⟩) 100000 fun args t h => ?_
  unfold slices_IndexFunc___int64_int64__impl_areIndices_1_c0 at h
  split at h
  · rename_i a0 a1_0
    cases h
    exact ⟨rfl, agree_need (mk := slices_IndexFunc___int64_int64__impl_areIndices_1_mk) (t := slices_IndexFunc___int64_int64__impl_areIndices_1_tree a0 a1_0) (by unfold Agree; kernel_rfl)⟩
  · cases h
def slices_IndexFunc___int64_int64__impl_areIndices_1_c : Con := fun args => slices_IndexFunc___int64_int64__impl_areIndices_1_c0 (norms 0 [.slc (.int .i64), .none] args)
set_option maxRecDepth 100000 in
theorem slices_IndexFunc___int64_int64__impl_areIndices_1_ok : FunOK Try.prog 126 slices_IndexFunc___int64_int64__impl_areIndices_1_c.fn := con_norm [.slc (.int .i64), .none] slices_IndexFunc___int64_int64__impl_areIndices_1_ok0

/-- slices.ContainsFunc[[]int64,int64] -/
def slices_ContainsFunc___int64_int64__impl_areIndices_1_tree (a0 : List Int) (a1_0 : Int) : DT (Bool) :=
  .need ((slices_IndexFunc___int64_int64__impl_areIndices_1_need a0 a1_0)) (
  let x0 := slices_IndexFunc___int64_int64__impl_areIndices_1 a0 a1_0;
  let x1 := decide (x0 ≥ 0);
  .leaf x1)
def slices_ContainsFunc___int64_int64__impl_areIndices_1 (a0 : List Int) (a1_0 : Int) : Bool := (slices_ContainsFunc___int64_int64__impl_areIndices_1_tree a0 a1_0).val
def slices_ContainsFunc___int64_int64__impl_areIndices_1_need (a0 : List Int) (a1_0 : Int) : Bool := (slices_ContainsFunc___int64_int64__impl_areIndices_1_tree a0 a1_0).ok
def slices_ContainsFunc___int64_int64__impl_areIndices_1_mk (p : Bool) : Ret := ⟨.bool p, []⟩
def slices_ContainsFunc___int64_int64__impl_areIndices_1_c0 : Con := fun args => match args with
  | [.vslc 1 (.int .i64) a0, .func (.func 104) [] [.vcell [.int .i64 a1_0] 0]] => some (.need (slices_ContainsFunc___int64_int64__impl_areIndices_1_need a0 a1_0) (.leaf (slices_ContainsFunc___int64_int64__impl_areIndices_1_mk (slices_ContainsFunc___int64_int64__impl_areIndices_1 a0 a1_0))))
  | _ => none
set_option maxRecDepth 100000 in
theorem slices_ContainsFunc___int64_int64__impl_areIndices_1_ok0 : FunOK Try.prog 103 slices_ContainsFunc___int64_int64__impl_areIndices_1_c0.fn := by
  refine con_ok (Γ := gam [(126, slices_IndexFunc___int64_int64__impl_areIndices_1_c)]) (gam_cons slices_IndexFunc___int64_int64__impl_areIndices_1_ok (gam_nil)) tab_ok (by kernel_rfl) Try.func103 (by kernel_rfl) (by kernel_rfl) Try.ntmps103 Try.results103 (loopsOK_none rfl _) 100000 fun args t h => ?_
  unfold slices_ContainsFunc___int64_int64__impl_areIndices_1_c0 at h
  split at h
  · rename_i a0 a1_0
    cases h
    exact ⟨rfl, agree_need (mk := slices_ContainsFunc___int64_int64__impl_areIndices_1_mk) (t := slices_ContainsFunc___int64_int64__impl_areIndices_1_tree a0 a1_0) (by unfold Agree; kernel_rfl)⟩
  · cases h
def slices_ContainsFunc___int64_int64__impl_areIndices_1_c : Con := fun args => slices_ContainsFunc___int64_int64__impl_areIndices_1_c0 (norms 0 [.slc (.int .i64), .none] args)
set_option maxRecDepth 100000 in
theorem slices_ContainsFunc___int64_int64__impl_areIndices_1_ok : FunOK Try.prog 103 slices_ContainsFunc___int64_int64__impl_areIndices_1_c.fn := con_norm [.slc (.int .i64), .none] slices_ContainsFunc___int64_int64__impl_areIndices_1_ok0

/-- loop.example/g01284/impl.areIndices -/
def impl_areIndices_tree (a0 : Int) (a1 : List Int) : DT (Bool) :=
  .need ((slices_ContainsFunc___int64_int64__impl_areIndices_1_need a1 a0)) (
  let x0 := slices_ContainsFunc___int64_int64__impl_areIndices_1 a1 a0;
  .leaf (!x0))
def impl_areIndices (a0 : Int) (a1 : List Int) : Bool := (impl_areIndices_tree a0 a1).val
def impl_areIndices_need (a0 : Int) (a1 : List Int) : Bool := (impl_areIndices_tree a0 a1).ok
def impl_areIndices_mk (p : Bool) : Ret := ⟨.bool p, []⟩
def impl_areIndices_c0 : Con := fun args => match args with
  | [.int .i64 a0, .vslc 2 (.int .i64) a1] => some (.need (impl_areIndices_need a0 a1) (.leaf (impl_areIndices_mk (impl_areIndices a0 a1))))
  | _ => none
set_option maxRecDepth 100000 in
theorem impl_areIndices_ok0 : FunOK Try.prog 73 impl_areIndices_c0.fn := by
  refine con_ok (Γ := gam [(103, slices_ContainsFunc___int64_int64__impl_areIndices_1_c)]) (gam_cons slices_ContainsFunc___int64_int64__impl_areIndices_1_ok (gam_nil)) tab_ok (by kernel_rfl) Try.func73 (by kernel_rfl) (by kernel_rfl) Try.ntmps73 Try.results73 (loopsOK_none rfl _) 100000 fun args t h => ?_
  unfold impl_areIndices_c0 at h
  split at h
  · rename_i a0 a1
    cases h
    exact ⟨rfl, agree_need (mk := impl_areIndices_mk) (t := impl_areIndices_tree a0 a1) (by unfold Agree; kernel_rfl)⟩
  · cases h
def impl_areIndices_c : Con := fun args => impl_areIndices_c0 (norms 0 [.none, .slc (.int .i64)] args)
set_option maxRecDepth 100000 in
theorem impl_areIndices_ok : FunOK Try.prog 73 impl_areIndices_c.fn := con_norm [.none, .slc (.int .i64)] impl_areIndices_ok0

-- FAILED 105 slices.Grow[[]loop.example/g01284/impl.Body,loop.example/g01284/impl.Body]: builtin

-- FAILED 74 slices.Concat[[]loop.example/g01284/impl.Body,loop.example/g01284/impl.Body]: slice of type 61

/-- slices.Concat[[]loop.example/g01284/impl.Body,loop.example/g01284/impl.Body] -/
def slices_Concat___impl_Body_impl_Body__tree (a0_0 : List Body) (a0_1 : List Body) : DT ((List Body) ⊕ (Unit)) :=
  .skip (
  .skip (
  let x0 := ((List.length a0_0 : Nat) : Int);
  let x1 := IntKind.wrap .i64 (0 + x0);
  let x2 := decide (x1 < 0);
  .ask x2
  (
   .fail)
  (
   .skip (
   .skip (
   let x3 := ((List.length a0_1 : Nat) : Int);
   let x4 := IntKind.wrap .i64 (x1 + x3);
   let x5 := decide (x4 < 0);
   .ask x5
   (
    .fail)
   (
    .skip (
    .need ((decide (0 ≤ x4) && decide (x4 * 28 ≤ 140737488355328))) (
    .ask ((decide (0 < x4)))
    (
     .skip (
     .skip (
     .need ((decide ((List.length ([] : List Body) + List.length a0_0) * 28 ≤ 140737488355328) && decide (List.length ([] : List Body) + List.length a0_0 ≤ 9223372036854775807))) (
     let x6 := ([] : List Body) ++ a0_0;
     .skip (
     .skip (
     .need ((decide ((List.length x6 + List.length a0_1) * 28 ≤ 140737488355328) && decide (List.length x6 + List.length a0_1 ≤ 9223372036854775807))) (
     let x7 := x6 ++ a0_1;
     .skip (
     .leaf (.inl x7)))))))))
    (
     .skip (
     .skip (
     .ask ((decide (0 < List.length a0_0)))
     (
      .need ((decide (List.length a0_0 * 28 ≤ 140737488355328) && decide (List.length a0_0 ≤ 9223372036854775807))) (
      .skip (
      .skip (
      .need ((decide ((List.length a0_0 + List.length a0_1) * 28 ≤ 140737488355328) && decide (List.length a0_0 + List.length a0_1 ≤ 9223372036854775807))) (
      let x6 := a0_0 ++ a0_1;
      .skip (
      .leaf (.inl x6)))))))
     (
      .skip (
      .skip (
      .ask ((decide (0 < List.length a0_1)))
      (
       .need ((decide (List.length a0_1 * 28 ≤ 140737488355328) && decide (List.length a0_1 ≤ 9223372036854775807))) (
       .skip (
       .leaf (.inl a0_1))))
      (
       .skip (
       .leaf (.inr ())))))))))))))))))
def slices_Concat___impl_Body_impl_Body_ (a0_0 : List Body) (a0_1 : List Body) : (List Body) ⊕ (Unit) := (slices_Concat___impl_Body_impl_Body__tree a0_0 a0_1).val
def slices_Concat___impl_Body_impl_Body__need (a0_0 : List Body) (a0_1 : List Body) : Bool := (slices_Concat___impl_Body_impl_Body__tree a0_0 a0_1).ok
def slices_Concat___impl_Body_impl_Body__mk0 (p : List Body) : Ret := ⟨.own 0, [.typed 72 .body p]⟩
def slices_Concat___impl_Body_impl_Body__mk1 (p : Unit) : Ret := ⟨.nils, []⟩
def slices_Concat___impl_Body_impl_Body__mk : (List Body) ⊕ (Unit) → Ret := fun v => match v with
  | (.inl p) => slices_Concat___impl_Body_impl_Body__mk0 p
  | (.inr p) => slices_Concat___impl_Body_impl_Body__mk1 p
def slices_Concat___impl_Body_impl_Body__forms (v : (List Body) ⊕ (Unit)) : DT Ret := .ask (isL v) (.leaf (slices_Concat___impl_Body_impl_Body__mk0 (leftD v))) (.leaf (slices_Concat___impl_Body_impl_Body__mk1 (rightD v)))
theorem slices_Concat___impl_Body_impl_Body__forms_get : ∀ v, (slices_Concat___impl_Body_impl_Body__forms v).get = some (slices_Concat___impl_Body_impl_Body__mk v) := by
  intro v
  rcases v with v | v <;> rfl
def slices_Concat___impl_Body_impl_Body__c0 : Con := fun args => match args with
  | [.lst [.vslc 0 .body a0_0, .vslc 0 .body a0_1]] => some (.need (slices_Concat___impl_Body_impl_Body__need a0_0 a0_1) (slices_Concat___impl_Body_impl_Body__forms (slices_Concat___impl_Body_impl_Body_ a0_0 a0_1)))
  | _ => none
set_option maxRecDepth 100000 in
theorem slices_Concat___impl_Body_impl_Body__ok0 : FunOK Try.prog 74 slices_Concat___impl_Body_impl_Body__c0.fn := by
  refine con_ok (Γ := gam [(105, slices_Grow_c)]) (gam_cons slices_Grow_ok (gam_nil)) tab_ok (by kernel_rfl) Try.func74 (by kernel_rfl) (by kernel_rfl) Try.ntmps74 Try.results74 (loopsOK_none rfl _) 100000 fun args t h => ?_
  unfold slices_Concat___impl_Body_impl_Body__c0 at h
  split at h
  · rename_i a0_0 a0_1
    cases h
    exact ⟨rfl, agree_forms (mk := slices_Concat___impl_Body_impl_Body__mk) (t := slices_Concat___impl_Body_impl_Body__tree a0_0 a0_1) (by unfold Agree; kernel_rfl) (fun h => h) (slices_Concat___impl_Body_impl_Body__forms_get _)⟩
  · cases h
def slices_Concat___impl_Body_impl_Body__c : Con := fun args => slices_Concat___impl_Body_impl_Body__c0 (norms 0 [.none] args)
set_option maxRecDepth 100000 in
theorem slices_Concat___impl_Body_impl_Body__ok : FunOK Try.prog 74 slices_Concat___impl_Body_impl_Body__c.fn := con_norm [.none] slices_Concat___impl_Body_impl_Body__ok0

/-- loop.example/g01284/impl.DropBody -/
def impl_DropBody_tree (a0 : List Body) (a1 : Int) : DT ((Bool) ⊕ (List Body)) :=
  .need ((impl_AreBodies_need a0)) (
  let x0 := impl_AreBodies a0;
  .ask (!x0)
  (
   .leaf (.inl false))
  (
   let x1 := ((List.length a0 : Nat) : Int);
   .need ((impl_areIndices_need x1 [a1])) (
   let x2 := impl_areIndices x1 [a1];
   .ask (!x2)
   (
    .leaf (.inl false))
   (
    .need ((decide (0 ≤ a1) && decide (a1 ≤ ((List.length a0 : Nat) : Int)))) (
    let x3 := List.drop 0 (List.take (Int.toNat a1) a0);
    let x4 := IntKind.wrap .i64 (a1 + 1);
    .need ((decide (0 ≤ x4) && decide (x4 ≤ (((List.length a0) : Nat) : Int)))) (
    let x5 := List.drop (Int.toNat x4) (List.take (List.length a0) a0);
    .need ((slices_Concat___impl_Body_impl_Body__need x3 x5)) (
    let x6 := slices_Concat___impl_Body_impl_Body_ x3 x5;
    .ask ((isL x6))
    (
     .leaf (.inr ((leftD x6))))
    (
     .leaf (.inl true)))))))))
def impl_DropBody (a0 : List Body) (a1 : Int) : (Bool) ⊕ (List Body) := (impl_DropBody_tree a0 a1).val
def impl_DropBody_need (a0 : List Body) (a1 : Int) : Bool := (impl_DropBody_tree a0 a1).ok
def impl_DropBody_mk0 (p : Bool) : Ret := ⟨.tup [.nils, .bool p], []⟩
def impl_DropBody_mk1 (p : List Body) : Ret := ⟨.tup [.own 0, .bool true], [.typed 72 .body p]⟩
def impl_DropBody_mk : (Bool) ⊕ (List Body) → Ret := fun v => match v with
  | (.inl p) => impl_DropBody_mk0 p
  | (.inr p) => impl_DropBody_mk1 p
def impl_DropBody_forms (v : (Bool) ⊕ (List Body)) : DT Ret := .ask (isL v) (.leaf (impl_DropBody_mk0 (leftD v))) (.leaf (impl_DropBody_mk1 (rightD v)))
theorem impl_DropBody_forms_get : ∀ v, (impl_DropBody_forms v).get = some (impl_DropBody_mk v) := by
  intro v
  rcases v with v | v <;> rfl
def impl_DropBody_c0 : Con := fun args => match args with
  | [.vslc 1 .body a0, .int .i64 a1] => some (.need (impl_DropBody_need a0 a1) (impl_DropBody_forms (impl_DropBody a0 a1)))
  | _ => none
set_option maxRecDepth 100000 in
theorem impl_DropBody_ok0 : FunOK Try.prog 34 impl_DropBody_c0.fn := by
  refine con_ok (Γ := gam [(64, impl_AreBodies_c), (73, impl_areIndices_c), (74, slices_Concat___impl_Body_impl_Body__c)]) (gam_cons impl_AreBodies_ok (gam_cons impl_areIndices_ok (gam_cons slices_Concat___impl_Body_impl_Body__ok (gam_nil)))) tab_ok (by kernel_rfl) Try.func34 (by kernel_rfl) (by kernel_rfl) Try.ntmps34 Try.results34 (loopsOK_none rfl _) 100000 fun args t h => ?_
  unfold impl_DropBody_c0 at h
  split at h
  · rename_i a0 a1
    cases h
    exact ⟨rfl, agree_forms (mk := impl_DropBody_mk) (t := impl_DropBody_tree a0 a1) (by unfold Agree; kernel_rfl) (fun h => h) (impl_DropBody_forms_get _)⟩
  · cases h
def impl_DropBody_c : Con := fun args => impl_DropBody_c0 (norms 0 [.slc .body, .none] args)
set_option maxRecDepth 100000 in
theorem impl_DropBody_ok : FunOK Try.prog 34 impl_DropBody_c.fn := con_norm [.slc .body, .none] impl_DropBody_ok0

/-- loop.example/g01284/impl.SameNumber -/
def impl_SameNumber_tree (a0 : Nat) (a1 : Nat) : DT (Bool) :=
  let x0 := fne .f32 a0 a0;
  .ask x0
  (
   let x1 := fne .f32 a0 a0;
   .ask x1
   (
    let x2 := fne .f32 a1 a1;
    .leaf x2)
   (
    .leaf false))
  (
   let x1 := fne .f32 a1 a1;
   .ask x1
   (
    let x2 := fne .f32 a0 a0;
    .ask x2
    (
     let x3 := fne .f32 a1 a1;
     .leaf x3)
    (
     .leaf false))
   (
    let x2 := feq .f32 a0 a1;
    .ask x2
    (
     .need ((fconvOk .f32 a0 .f64)) (
     let x3 := fconv .f32 a0 .f64;
     .need ((!isNaN .f64 x3)) (
     let x4 := decide (IntKind.wrap .i64 ((x3 : Nat) : Int) < 0);
     .need ((fconvOk .f32 a1 .f64)) (
     let x5 := fconv .f32 a1 .f64;
     .need ((!isNaN .f64 x5)) (
     let x6 := decide (IntKind.wrap .i64 ((x5 : Nat) : Int) < 0);
     let x7 := (x4 == x6);
     .leaf x7)))))
    (
     .leaf false)))
def impl_SameNumber (a0 : Nat) (a1 : Nat) : Bool := (impl_SameNumber_tree a0 a1).val
def impl_SameNumber_need (a0 : Nat) (a1 : Nat) : Bool := (impl_SameNumber_tree a0 a1).ok
def impl_SameNumber_mk (p : Bool) : Ret := ⟨.bool p, []⟩
def impl_SameNumber_c : Con := fun args => match args with
  | [.flt .f32 a0, .flt .f32 a1] => some (.need (impl_SameNumber_need a0 a1) (.leaf (impl_SameNumber_mk (impl_SameNumber a0 a1))))
  | _ => none
set_option maxRecDepth 100000 in
theorem impl_SameNumber_ok : FunOK Try.prog 78 impl_SameNumber_c.fn := by
  refine con_ok (Γ := gam [(106, math_Signbit_c)]) (gam_cons math_Signbit_ok (gam_nil)) tab_ok (by kernel_rfl) Try.func78 (by kernel_rfl) (by kernel_rfl) Try.ntmps78 Try.results78 (loopsOK_none rfl _) 100000 fun args t h => ?_
  unfold impl_SameNumber_c at h
  split at h
  · rename_i a0 a1
    cases h
    exact ⟨rfl, agree_need (mk := impl_SameNumber_mk) (t := impl_SameNumber_tree a0 a1) (by unfold Agree; kernel_rfl)⟩
  · cases h

/-- a loop of slices_EqualFunc___float32___float32_float32_float32__impl_SameNumber -/
def slices_EqualFunc___float32___float32_float32_float32__impl_SameNumber_loop0_step (p : List Nat × List Nat × Int) (s : Int) : Round (Int) ((Unit) ⊕ (Unit)) :=
  let x0 := decide (s < p.2.2);
  .ask x0
  (
   .need ((decide (0 ≤ s) && decide (s < ((List.length p.2.1 : Nat) : Int)))) (
   let x1 := List.getD p.2.1 (Int.toNat s) default;
   .need ((decide (0 ≤ s) && decide (s < ((List.length p.1 : Nat) : Int)))) (
   let x2 := List.getD p.1 (Int.toNat s) default;
   .need ((impl_SameNumber_need x1 x2)) (
   let x3 := impl_SameNumber x1 x2;
   .ask (!x3)
   (
    .leaf (.inr (.inl ()), []))
   (
    let x4 := IntKind.wrap .i64 (s + 1);
    .leaf (.inl x4, []))))))
  (
   .leaf (.inr (.inr ()), []))
def slices_EqualFunc___float32___float32_float32_float32__impl_SameNumber_loop0_L (p : List Nat × List Nat × Int) : LoopS (Int) ((Unit) ⊕ (Unit)) := { tl := fun s => [.junk, .vslc 2 (.flt .f32) p.1, .func (.func 78) [] [], .junk, .junk, .junk, .junk, .junk, .junk, .junk, .junk, .junk, .junk, .junk, .junk, .vslc 1 (.flt .f32) p.2.1, .int .i64 p.2.2, .int .i64 s], hl := fun s => [], ex := fun r => match r with | .inl r => .ret | .inr r => .exit 0, otl := fun r => match r with | .inl r => [.junk, .junk, .junk, .junk, .junk, .junk, .bool false] | .inr r => [.junk], ohl := fun r => match r with | .inl r => [] | .inr r => [] }
def slices_EqualFunc___float32___float32_float32_float32__impl_SameNumber_loop0_ext : St → Option ((List Nat × List Nat × Int) × (Int) × List Nat) := fun S => match (S.tm 1).unK, (S.tm 2).unK, (S.tm 15).unK, (S.tm 16).unK, (S.tm 17).unK with
  | .vslc 2 (.flt .f32) q0, .func (.func 78) [] [], .vslc 1 (.flt .f32) q1, .int .i64 q2, .int .i64 q3 => some ((q0, q1, q2), q3, [])
  | _, _, _, _, _ => none
def slices_EqualFunc___float32___float32_float32_float32__impl_SameNumber_loop0_post (p : List Nat × List Nat × Int) (r : (Unit) ⊕ (Unit)) : DT (Ex × St) := .ask (isL r) (.leaf (.ret, LSt [.junk, .junk, .junk, .junk, .junk, .junk, .bool false] [])) (.leaf (.exit 0, LSt [.junk] []))
def slices_EqualFunc___float32___float32_float32_float32__impl_SameNumber_loop0 (p : List Nat × List Nat × Int) (s : Int) : (Unit) ⊕ (Unit) := loopVal (slices_EqualFunc___float32___float32_float32_float32__impl_SameNumber_loop0_step p) s
def slices_EqualFunc___float32___float32_float32_float32__impl_SameNumber_loop0_ends (p : List Nat × List Nat × Int) (s : Int) : Bool := loopEnds (slices_EqualFunc___float32___float32_float32_float32__impl_SameNumber_loop0_step p) s
def slices_EqualFunc___float32___float32_float32_float32__impl_SameNumber_loop0_F : LoopF := loopF slices_EqualFunc___float32___float32_float32_float32__impl_SameNumber_loop0_step slices_EqualFunc___float32___float32_float32_float32__impl_SameNumber_loop0_ext slices_EqualFunc___float32___float32_float32_float32__impl_SameNumber_loop0_post
set_option maxRecDepth 100000 in
theorem slices_EqualFunc___float32___float32_float32_float32__impl_SameNumber_loop0_hext : ∀ S p s fl, slices_EqualFunc___float32___float32_float32_float32__impl_SameNumber_loop0_ext S = some (p, s, fl) → Norm S fl ((slices_EqualFunc___float32___float32_float32_float32__impl_SameNumber_loop0_L p).tl s) ((slices_EqualFunc___float32___float32_float32_float32__impl_SameNumber_loop0_L p).hl s) (slices_EqualFunc___float32___float32_float32_float32__impl_SameNumber_loop0_L p).gl := by
  intro S p s fl h
  unfold slices_EqualFunc___float32___float32_float32_float32__impl_SameNumber_loop0_ext at h
  (repeat' split at h) <;> first
    | (cases h; constructor <;> simp_all [slices_EqualFunc___float32___float32_float32_float32__impl_SameNumber_loop0_L, keepT, keepH, rens, renH, PV.ren, Blk.ren, fOf, lget, nodup, natIn, lenEq, gtm, PV.unK])
    | cases h
set_option maxRecDepth 100000 in
theorem slices_EqualFunc___float32___float32_float32_float32__impl_SameNumber_loop0_hpost : ∀ p r e S', (slices_EqualFunc___float32___float32_float32_float32__impl_SameNumber_loop0_post p r).get = some (e, S') → e = (slices_EqualFunc___float32___float32_float32_float32__impl_SameNumber_loop0_L p).ex r ∧ S' = LSt ((slices_EqualFunc___float32___float32_float32_float32__impl_SameNumber_loop0_L p).otl r) ((slices_EqualFunc___float32___float32_float32_float32__impl_SameNumber_loop0_L p).ohl r) ((slices_EqualFunc___float32___float32_float32_float32__impl_SameNumber_loop0_L p).ogl r) := by
  intro p r e S' h
  unfold slices_EqualFunc___float32___float32_float32_float32__impl_SameNumber_loop0_post at h
  cases r <;> (simp only [isL, DT.get, Option.some.injEq, Prod.mk.injEq] at h; exact ⟨h.1.symm, h.2.symm⟩)

def slices_EqualFunc___float32___float32_float32_float32__impl_SameNumber_loops : Nat → Option LoopF := loopTab [(4, slices_EqualFunc___float32___float32_float32_float32__impl_SameNumber_loop0_F)]
set_option maxRecDepth 100000 in
theorem slices_EqualFunc___float32___float32_float32_float32__impl_SameNumber_l0 : LoopOK Try.prog ⟨gam [(78, impl_SameNumber_c)], tab, 32, slices_EqualFunc___float32___float32_float32_float32__impl_SameNumber_loops⟩ (lp Try.f95 0) :=
  loopOK_some (F := slices_EqualFunc___float32___float32_float32_float32__impl_SameNumber_loop0_F) (by kernel_rfl) (loopF_ok (E := ⟨gam [(78, impl_SameNumber_c)], tab, 32, slices_EqualFunc___float32___float32_float32_float32__impl_SameNumber_loops⟩) ⟨gam_cons impl_SameNumber_ok (gam_nil), tab_ok, by kernel_rfl⟩ (fuel := 100000) (loopsOK_list (l := []) (by kernel_rfl) trivial) (L := slices_EqualFunc___float32___float32_float32_float32__impl_SameNumber_loop0_L) (fun p s => by unfold AgreeL; exact ⟨by kernel_rfl, by kernel_rfl⟩) (fun _ r h => by cases r <;> exact Ex.noConfusion h) slices_EqualFunc___float32___float32_float32_float32__impl_SameNumber_loop0_hext slices_EqualFunc___float32___float32_float32_float32__impl_SameNumber_loop0_hpost)
/-- slices.EqualFunc[[]float32,[]float32,float32,float32] -/
def slices_EqualFunc___float32___float32_float32_float32__impl_SameNumber_tree (a0 : List Nat) (a1 : List Nat) : DT (Bool) :=
  let x0 := ((List.length a0 : Nat) : Int);
  let x1 := ((List.length a1 : Nat) : Int);
  let x2 := (x0 != x1);
  .ask x2
  (
   .leaf false)
  (
   let x3 := ((List.length a0 : Nat) : Int);
   .need ((slices_EqualFunc___float32___float32_float32_float32__impl_SameNumber_loop0_ends (a1, a0, x3) 0)) (
   let x4 := slices_EqualFunc___float32___float32_float32_float32__impl_SameNumber_loop0 (a1, a0, x3) 0;
   .ask ((isL x4))
   (
    .leaf false)
   (
    .leaf true)))
def slices_EqualFunc___float32___float32_float32_float32__impl_SameNumber (a0 : List Nat) (a1 : List Nat) : Bool := (slices_EqualFunc___float32___float32_float32_float32__impl_SameNumber_tree a0 a1).val
def slices_EqualFunc___float32___float32_float32_float32__impl_SameNumber_need (a0 : List Nat) (a1 : List Nat) : Bool := (slices_EqualFunc___float32___float32_float32_float32__impl_SameNumber_tree a0 a1).ok
def slices_EqualFunc___float32___float32_float32_float32__impl_SameNumber_mk (p : Bool) : Ret := ⟨.bool p, []⟩
def slices_EqualFunc___float32___float32_float32_float32__impl_SameNumber_c0 : Con := fun args => match args with
  | [.vslc 1 (.flt .f32) a0, .vslc 2 (.flt .f32) a1, .func (.func 78) [] []] => some (.need (slices_EqualFunc___float32___float32_float32_float32__impl_SameNumber_need a0 a1) (.leaf (slices_EqualFunc___float32___float32_float32_float32__impl_SameNumber_mk (slices_EqualFunc___float32___float32_float32_float32__impl_SameNumber a0 a1))))
  | _ => none
set_option maxRecDepth 100000 in
theorem slices_EqualFunc___float32___float32_float32_float32__impl_SameNumber_ok0 : FunOK Try.prog 95 slices_EqualFunc___float32___float32_float32_float32__impl_SameNumber_c0.fn := by
  refine con_ok (Γ := gam [(78, impl_SameNumber_c)]) (gam_cons impl_SameNumber_ok (gam_nil)) tab_ok (by kernel_rfl) Try.func95 (by kernel_rfl) (by kernel_rfl) Try.ntmps95 Try.results95 (loops := slices_EqualFunc___float32___float32_float32_float32__impl_SameNumber_loops) (loopsOK_list (l := [lp Try.f95 0]) (by kernel_rfl) ⟨slices_EqualFunc___float32___float32_float32_float32__impl_SameNumber_l0, trivial⟩) 100000 fun args t h => ?_
  unfold slices_EqualFunc___float32___float32_float32_float32__impl_SameNumber_c0 at h
  split at h
  · rename_i a0 a1
    cases h
    exact ⟨rfl, agree_need (mk := slices_EqualFunc___float32___float32_float32_float32__impl_SameNumber_mk) (t := slices_EqualFunc___float32___float32_float32_float32__impl_SameNumber_tree a0 a1) (by unfold Agree; kernel_rfl)⟩
  · cases h
def slices_EqualFunc___float32___float32_float32_float32__impl_SameNumber_c : Con := fun args => slices_EqualFunc___float32___float32_float32_float32__impl_SameNumber_c0 (norms 0 [.slc (.flt .f32), .slc (.flt .f32), .none] args)
set_option maxRecDepth 100000 in
theorem slices_EqualFunc___float32___float32_float32_float32__impl_SameNumber_ok : FunOK Try.prog 95 slices_EqualFunc___float32___float32_float32_float32__impl_SameNumber_c.fn := con_norm [.slc (.flt .f32), .slc (.flt .f32), .none] slices_EqualFunc___float32___float32_float32_float32__impl_SameNumber_ok0

/-- loop.example/g01284/impl.sameNumbers -/
def impl_sameNumbers_tree (a0 : List Nat) (a1 : List Nat) : DT (Bool) :=
  .need ((slices_EqualFunc___float32___float32_float32_float32__impl_SameNumber_need a0 a1 )) (
  let x0 := slices_EqualFunc___float32___float32_float32_float32__impl_SameNumber a0 a1 ;
  .leaf x0)
def impl_sameNumbers (a0 : List Nat) (a1 : List Nat) : Bool := (impl_sameNumbers_tree a0 a1).val
def impl_sameNumbers_need (a0 : List Nat) (a1 : List Nat) : Bool := (impl_sameNumbers_tree a0 a1).ok
def impl_sameNumbers_mk (p : Bool) : Ret := ⟨.bool p, []⟩
def impl_sameNumbers_c0 : Con := fun args => match args with
  | [.vslc 1 (.flt .f32) a0, .vslc 2 (.flt .f32) a1] => some (.need (impl_sameNumbers_need a0 a1) (.leaf (impl_sameNumbers_mk (impl_sameNumbers a0 a1))))
  | _ => none
set_option maxRecDepth 100000 in
theorem impl_sameNumbers_ok0 : FunOK Try.prog 57 impl_sameNumbers_c0.fn := by
  refine con_ok (Γ := gam [(95, slices_EqualFunc___float32___float32_float32_float32__impl_SameNumber_c)]) (gam_cons slices_EqualFunc___float32___float32_float32_float32__impl_SameNumber_ok (gam_nil)) tab_ok (by kernel_rfl) Try.func57 (by kernel_rfl) (by kernel_rfl) Try.ntmps57 Try.results57 (loopsOK_none rfl _) 100000 fun args t h => ?_
  unfold impl_sameNumbers_c0 at h
  split at h
  · rename_i a0 a1
    cases h
    exact ⟨rfl, agree_need (mk := impl_sameNumbers_mk) (t := impl_sameNumbers_tree a0 a1) (by unfold Agree; kernel_rfl)⟩
  · cases h
def impl_sameNumbers_c : Con := fun args => impl_sameNumbers_c0 (norms 0 [.slc (.flt .f32), .slc (.flt .f32)] args)
set_option maxRecDepth 100000 in
theorem impl_sameNumbers_ok : FunOK Try.prog 57 impl_sameNumbers_c.fn := con_norm [.slc (.flt .f32), .slc (.flt .f32)] impl_sameNumbers_ok0

/-- loop.example/g01284/impl.SameVector -/
def impl_SameVector_tree (a0 : Vec) (a1 : Vec) : DT (Bool) :=
  let x0 := impl_Vector_numbers (⟨a0.X, a0.Y, a0.Z⟩ : Vec);
  let x1 := impl_Vector_numbers (⟨a1.X, a1.Y, a1.Z⟩ : Vec);
  .need ((impl_sameNumbers_need x0 x1)) (
  let x2 := impl_sameNumbers x0 x1;
  .leaf x2)
def impl_SameVector (a0 : Vec) (a1 : Vec) : Bool := (impl_SameVector_tree a0 a1).val
def impl_SameVector_need (a0 : Vec) (a1 : Vec) : Bool := (impl_SameVector_tree a0 a1).ok
def impl_SameVector_mk (p : Bool) : Ret := ⟨.bool p, []⟩
def impl_SameVector_c : Con := fun args => match args with
  | [.agg [.flt .f32 a0_0, .flt .f32 a0_1, .flt .f32 a0_2], .agg [.flt .f32 a1_0, .flt .f32 a1_1, .flt .f32 a1_2]] => some (.need (impl_SameVector_need (⟨a0_0, a0_1, a0_2⟩ : Vec) (⟨a1_0, a1_1, a1_2⟩ : Vec)) (.leaf (impl_SameVector_mk (impl_SameVector (⟨a0_0, a0_1, a0_2⟩ : Vec) (⟨a1_0, a1_1, a1_2⟩ : Vec)))))
  | _ => none
set_option maxRecDepth 100000 in
theorem impl_SameVector_ok : FunOK Try.prog 77 impl_SameVector_c.fn := by
  refine con_ok (Γ := gam [(91, impl_Vector_numbers_c), (57, impl_sameNumbers_c)]) (gam_cons impl_Vector_numbers_ok (gam_cons impl_sameNumbers_ok (gam_nil))) tab_ok (by kernel_rfl) Try.func77 (by kernel_rfl) (by kernel_rfl) Try.ntmps77 Try.results77 (loopsOK_none rfl _) 100000 fun args t h => ?_
  unfold impl_SameVector_c at h
  split at h
  · rename_i a0_0 a0_1 a0_2 a1_0 a1_1 a1_2
    cases h
    exact ⟨rfl, agree_need (mk := impl_SameVector_mk) (t := impl_SameVector_tree (⟨a0_0, a0_1, a0_2⟩ : Vec) (⟨a1_0, a1_1, a1_2⟩ : Vec)) (by unfold Agree; kernel_rfl)⟩
  · cases h

/-- loop.example/g01284/impl.SameBodies$1 -/
def impl_SameBodies_1_tree (a0 : Body) (a1 : Body) : DT (Bool) :=
  .need ((impl_SameVector_need (⟨a0.At.X, a0.At.Y, a0.At.Z⟩ : Vec) (⟨a1.At.X, a1.At.Y, a1.At.Z⟩ : Vec))) (
  let x0 := impl_SameVector (⟨a0.At.X, a0.At.Y, a0.At.Z⟩ : Vec) (⟨a1.At.X, a1.At.Y, a1.At.Z⟩ : Vec);
  .ask x0
  (
   .need ((impl_SameVector_need (⟨a0.Speed.X, a0.Speed.Y, a0.Speed.Z⟩ : Vec) (⟨a1.Speed.X, a1.Speed.Y, a1.Speed.Z⟩ : Vec))) (
   let x1 := impl_SameVector (⟨a0.Speed.X, a0.Speed.Y, a0.Speed.Z⟩ : Vec) (⟨a1.Speed.X, a1.Speed.Y, a1.Speed.Z⟩ : Vec);
   .ask x1
   (
    .need ((impl_SameNumber_need a0.Mass a1.Mass)) (
    let x2 := impl_SameNumber a0.Mass a1.Mass;
    .leaf x2))
   (
    .leaf false)))
  (
   .leaf false))
def impl_SameBodies_1 (a0 : Body) (a1 : Body) : Bool := (impl_SameBodies_1_tree a0 a1).val
def impl_SameBodies_1_need (a0 : Body) (a1 : Body) : Bool := (impl_SameBodies_1_tree a0 a1).ok
def impl_SameBodies_1_mk (p : Bool) : Ret := ⟨.bool p, []⟩
def impl_SameBodies_1_c : Con := fun args => match args with
  | [.agg [.flt .f32 a0_0, .flt .f32 a0_1, .flt .f32 a0_2, .flt .f32 a0_3, .flt .f32 a0_4, .flt .f32 a0_5, .flt .f32 a0_6], .agg [.flt .f32 a1_0, .flt .f32 a1_1, .flt .f32 a1_2, .flt .f32 a1_3, .flt .f32 a1_4, .flt .f32 a1_5, .flt .f32 a1_6]] => some (.need (impl_SameBodies_1_need (⟨⟨a0_0, a0_1, a0_2⟩, ⟨a0_3, a0_4, a0_5⟩, a0_6⟩ : Body) (⟨⟨a1_0, a1_1, a1_2⟩, ⟨a1_3, a1_4, a1_5⟩, a1_6⟩ : Body)) (.leaf (impl_SameBodies_1_mk (impl_SameBodies_1 (⟨⟨a0_0, a0_1, a0_2⟩, ⟨a0_3, a0_4, a0_5⟩, a0_6⟩ : Body) (⟨⟨a1_0, a1_1, a1_2⟩, ⟨a1_3, a1_4, a1_5⟩, a1_6⟩ : Body)))))
  | _ => none
set_option maxRecDepth 100000 in
theorem impl_SameBodies_1_ok : FunOK Try.prog 76 impl_SameBodies_1_c.fn := by
  refine con_ok (Γ := gam [(77, impl_SameVector_c), (78, impl_SameNumber_c)]) (gam_cons impl_SameVector_ok (gam_cons impl_SameNumber_ok (gam_nil))) tab_ok (by kernel_rfl) Try.func76 (by kernel_rfl) (by kernel_rfl) Try.ntmps76 Try.results76 (loopsOK_none rfl _) 100000 fun args t h => ?_
  unfold impl_SameBodies_1_c at h
  split at h
  · rename_i a0_0 a0_1 a0_2 a0_3 a0_4 a0_5 a0_6 a1_0 a1_1 a1_2 a1_3 a1_4 a1_5 a1_6
    cases h
    exact ⟨rfl, agree_need (mk := impl_SameBodies_1_mk) (t := impl_SameBodies_1_tree (⟨⟨a0_0, a0_1, a0_2⟩, ⟨a0_3, a0_4, a0_5⟩, a0_6⟩ : Body) (⟨⟨a1_0, a1_1, a1_2⟩, ⟨a1_3, a1_4, a1_5⟩, a1_6⟩ : Body)) (by unfold Agree; kernel_rfl)⟩
  · cases h

/-- a loop of slices_EqualFunc___impl_Body___impl_Body_impl_Body_impl_Body__impl_SameBodies_1 -/
def slices_EqualFunc___impl_Body___impl_Body_impl_Body_impl_Body__impl_SameBodies_1_loop0_step (p : List Body × List Body × Int) (s : Int) : Round (Int) ((Unit) ⊕ (Unit)) :=
  let x0 := decide (s < p.2.2);
  .ask x0
  (
   .need ((decide (0 ≤ s) && decide (s < ((List.length p.2.1 : Nat) : Int)))) (
   let x1 := List.getD p.2.1 (Int.toNat s) default;
   .need ((decide (0 ≤ s) && decide (s < ((List.length p.1 : Nat) : Int)))) (
   let x2 := List.getD p.1 (Int.toNat s) default;
   .need ((impl_SameBodies_1_need (⟨⟨x1.At.X, x1.At.Y, x1.At.Z⟩, ⟨x1.Speed.X, x1.Speed.Y, x1.Speed.Z⟩, x1.Mass⟩ : Body) (⟨⟨x2.At.X, x2.At.Y, x2.At.Z⟩, ⟨x2.Speed.X, x2.Speed.Y, x2.Speed.Z⟩, x2.Mass⟩ : Body))) (
   let x3 := impl_SameBodies_1 (⟨⟨x1.At.X, x1.At.Y, x1.At.Z⟩, ⟨x1.Speed.X, x1.Speed.Y, x1.Speed.Z⟩, x1.Mass⟩ : Body) (⟨⟨x2.At.X, x2.At.Y, x2.At.Z⟩, ⟨x2.Speed.X, x2.Speed.Y, x2.Speed.Z⟩, x2.Mass⟩ : Body);
   .ask (!x3)
   (
    .leaf (.inr (.inl ()), []))
   (
    let x4 := IntKind.wrap .i64 (s + 1);
    .leaf (.inl x4, []))))))
  (
   .leaf (.inr (.inr ()), []))
def slices_EqualFunc___impl_Body___impl_Body_impl_Body_impl_Body__impl_SameBodies_1_loop0_L (p : List Body × List Body × Int) : LoopS (Int) ((Unit) ⊕ (Unit)) := { tl := fun s => [.junk, .vslc 2 .body p.1, .func (.func 76) [] [], .junk, .junk, .junk, .junk, .junk, .junk, .junk, .junk, .junk, .junk, .junk, .junk, .vslc 1 .body p.2.1, .int .i64 p.2.2, .int .i64 s], hl := fun s => [], ex := fun r => match r with | .inl r => .ret | .inr r => .exit 0, otl := fun r => match r with | .inl r => [.junk, .junk, .junk, .junk, .junk, .junk, .bool false] | .inr r => [.junk], ohl := fun r => match r with | .inl r => [] | .inr r => [] }
def slices_EqualFunc___impl_Body___impl_Body_impl_Body_impl_Body__impl_SameBodies_1_loop0_ext : St → Option ((List Body × List Body × Int) × (Int) × List Nat) := fun S => match (S.tm 1).unK, (S.tm 2).unK, (S.tm 15).unK, (S.tm 16).unK, (S.tm 17).unK with
  | .vslc 2 .body q0, .func (.func 76) [] [], .vslc 1 .body q1, .int .i64 q2, .int .i64 q3 => some ((q0, q1, q2), q3, [])
  | _, _, _, _, _ => none
def slices_EqualFunc___impl_Body___impl_Body_impl_Body_impl_Body__impl_SameBodies_1_loop0_post (p : List Body × List Body × Int) (r : (Unit) ⊕ (Unit)) : DT (Ex × St) := .ask (isL r) (.leaf (.ret, LSt [.junk, .junk, .junk, .junk, .junk, .junk, .bool false] [])) (.leaf (.exit 0, LSt [.junk] []))
def slices_EqualFunc___impl_Body___impl_Body_impl_Body_impl_Body__impl_SameBodies_1_loop0 (p : List Body × List Body × Int) (s : Int) : (Unit) ⊕ (Unit) := loopVal (slices_EqualFunc___impl_Body___impl_Body_impl_Body_impl_Body__impl_SameBodies_1_loop0_step p) s
def slices_EqualFunc___impl_Body___impl_Body_impl_Body_impl_Body__impl_SameBodies_1_loop0_ends (p : List Body × List Body × Int) (s : Int) : Bool := loopEnds (slices_EqualFunc___impl_Body___impl_Body_impl_Body_impl_Body__impl_SameBodies_1_loop0_step p) s
def slices_EqualFunc___impl_Body___impl_Body_impl_Body_impl_Body__impl_SameBodies_1_loop0_F : LoopF := loopF slices_EqualFunc___impl_Body___impl_Body_impl_Body_impl_Body__impl_SameBodies_1_loop0_step slices_EqualFunc___impl_Body___impl_Body_impl_Body_impl_Body__impl_SameBodies_1_loop0_ext slices_EqualFunc___impl_Body___impl_Body_impl_Body_impl_Body__impl_SameBodies_1_loop0_post
set_option maxRecDepth 100000 in
theorem slices_EqualFunc___impl_Body___impl_Body_impl_Body_impl_Body__impl_SameBodies_1_loop0_hext : ∀ S p s fl, slices_EqualFunc___impl_Body___impl_Body_impl_Body_impl_Body__impl_SameBodies_1_loop0_ext S = some (p, s, fl) → Norm S fl ((slices_EqualFunc___impl_Body___impl_Body_impl_Body_impl_Body__impl_SameBodies_1_loop0_L p).tl s) ((slices_EqualFunc___impl_Body___impl_Body_impl_Body_impl_Body__impl_SameBodies_1_loop0_L p).hl s) (slices_EqualFunc___impl_Body___impl_Body_impl_Body_impl_Body__impl_SameBodies_1_loop0_L p).gl := by
  intro S p s fl h
  unfold slices_EqualFunc___impl_Body___impl_Body_impl_Body_impl_Body__impl_SameBodies_1_loop0_ext at h
  (repeat' split at h) <;> first
    | (cases h; constructor <;> simp_all [slices_EqualFunc___impl_Body___impl_Body_impl_Body_impl_Body__impl_SameBodies_1_loop0_L, keepT, keepH, rens, renH, PV.ren, Blk.ren, fOf, lget, nodup, natIn, lenEq, gtm, PV.unK])
    | cases h
set_option maxRecDepth 100000 in
theorem slices_EqualFunc___impl_Body___impl_Body_impl_Body_impl_Body__impl_SameBodies_1_loop0_hpost : ∀ p r e S', (slices_EqualFunc___impl_Body___impl_Body_impl_Body_impl_Body__impl_SameBodies_1_loop0_post p r).get = some (e, S') → e = (slices_EqualFunc___impl_Body___impl_Body_impl_Body_impl_Body__impl_SameBodies_1_loop0_L p).ex r ∧ S' = LSt ((slices_EqualFunc___impl_Body___impl_Body_impl_Body_impl_Body__impl_SameBodies_1_loop0_L p).otl r) ((slices_EqualFunc___impl_Body___impl_Body_impl_Body_impl_Body__impl_SameBodies_1_loop0_L p).ohl r) ((slices_EqualFunc___impl_Body___impl_Body_impl_Body_impl_Body__impl_SameBodies_1_loop0_L p).ogl r) := by
  intro p r e S' h
  unfold slices_EqualFunc___impl_Body___impl_Body_impl_Body_impl_Body__impl_SameBodies_1_loop0_post at h
  cases r <;> (simp only [isL, DT.get, Option.some.injEq, Prod.mk.injEq] at h; exact ⟨h.1.symm, h.2.symm⟩)

def slices_EqualFunc___impl_Body___impl_Body_impl_Body_impl_Body__impl_SameBodies_1_loops : Nat → Option LoopF := loopTab [(4, slices_EqualFunc___impl_Body___impl_Body_impl_Body_impl_Body__impl_SameBodies_1_loop0_F)]
set_option maxRecDepth 100000 in
theorem slices_EqualFunc___impl_Body___impl_Body_impl_Body_impl_Body__impl_SameBodies_1_l0 : LoopOK Try.prog ⟨gam [(76, impl_SameBodies_1_c)], tab, 32, slices_EqualFunc___impl_Body___impl_Body_impl_Body_impl_Body__impl_SameBodies_1_loops⟩ (lp Try.f75 0) :=
  loopOK_some (F := slices_EqualFunc___impl_Body___impl_Body_impl_Body_impl_Body__impl_SameBodies_1_loop0_F) (by kernel_rfl) (loopF_ok (E := ⟨gam [(76, impl_SameBodies_1_c)], tab, 32, slices_EqualFunc___impl_Body___impl_Body_impl_Body_impl_Body__impl_SameBodies_1_loops⟩) ⟨gam_cons impl_SameBodies_1_ok (gam_nil), tab_ok, by kernel_rfl⟩ (fuel := 100000) (loopsOK_list (l := []) (by kernel_rfl) trivial) (L := slices_EqualFunc___impl_Body___impl_Body_impl_Body_impl_Body__impl_SameBodies_1_loop0_L) (fun p s => by unfold AgreeL; exact ⟨by kernel_rfl, by kernel_rfl⟩) (fun _ r h => by cases r <;> exact Ex.noConfusion h) slices_EqualFunc___impl_Body___impl_Body_impl_Body_impl_Body__impl_SameBodies_1_loop0_hext slices_EqualFunc___impl_Body___impl_Body_impl_Body_impl_Body__impl_SameBodies_1_loop0_hpost)
/-- slices.EqualFunc[[]loop.example/g01284/impl.Body,[]loop.example/g01284/impl.Body,loop.example/g01284/impl.Body,loop.example/g01284/impl.Body] -/
def slices_EqualFunc___impl_Body___impl_Body_impl_Body_impl_Body__impl_SameBodies_1_tree (a0 : List Body) (a1 : List Body) : DT (Bool) :=
  let x0 := ((List.length a0 : Nat) : Int);
  let x1 := ((List.length a1 : Nat) : Int);
  let x2 := (x0 != x1);
  .ask x2
  (
   .leaf false)
  (
   let x3 := ((List.length a0 : Nat) : Int);
   .need ((slices_EqualFunc___impl_Body___impl_Body_impl_Body_impl_Body__impl_SameBodies_1_loop0_ends (a1, a0, x3) 0)) (
   let x4 := slices_EqualFunc___impl_Body___impl_Body_impl_Body_impl_Body__impl_SameBodies_1_loop0 (a1, a0, x3) 0;
   .ask ((isL x4))
   (
    .leaf false)
   (
    .leaf true)))
def slices_EqualFunc___impl_Body___impl_Body_impl_Body_impl_Body__impl_SameBodies_1 (a0 : List Body) (a1 : List Body) : Bool := (slices_EqualFunc___impl_Body___impl_Body_impl_Body_impl_Body__impl_SameBodies_1_tree a0 a1).val
def slices_EqualFunc___impl_Body___impl_Body_impl_Body_impl_Body__impl_SameBodies_1_need (a0 : List Body) (a1 : List Body) : Bool := (slices_EqualFunc___impl_Body___impl_Body_impl_Body_impl_Body__impl_SameBodies_1_tree a0 a1).ok
def slices_EqualFunc___impl_Body___impl_Body_impl_Body_impl_Body__impl_SameBodies_1_mk (p : Bool) : Ret := ⟨.bool p, []⟩
def slices_EqualFunc___impl_Body___impl_Body_impl_Body_impl_Body__impl_SameBodies_1_c0 : Con := fun args => match args with
  | [.vslc 1 .body a0, .vslc 2 .body a1, .func (.func 76) [] []] => some (.need (slices_EqualFunc___impl_Body___impl_Body_impl_Body_impl_Body__impl_SameBodies_1_need a0 a1) (.leaf (slices_EqualFunc___impl_Body___impl_Body_impl_Body_impl_Body__impl_SameBodies_1_mk (slices_EqualFunc___impl_Body___impl_Body_impl_Body_impl_Body__impl_SameBodies_1 a0 a1))))
  | _ => none
set_option maxRecDepth 100000 in
theorem slices_EqualFunc___impl_Body___impl_Body_impl_Body_impl_Body__impl_SameBodies_1_ok0 : FunOK Try.prog 75 slices_EqualFunc___impl_Body___impl_Body_impl_Body_impl_Body__impl_SameBodies_1_c0.fn := by
  refine con_ok (Γ := gam [(76, impl_SameBodies_1_c)]) (gam_cons impl_SameBodies_1_ok (gam_nil)) tab_ok (by kernel_rfl) Try.func75 (by kernel_rfl) (by kernel_rfl) Try.ntmps75 Try.results75 (loops := slices_EqualFunc___impl_Body___impl_Body_impl_Body_impl_Body__impl_SameBodies_1_loops) (loopsOK_list (l := [lp Try.f75 0]) (by kernel_rfl) ⟨slices_EqualFunc___impl_Body___impl_Body_impl_Body_impl_Body__impl_SameBodies_1_l0, trivial⟩) 100000 fun args t h => ?_
  unfold slices_EqualFunc___impl_Body___impl_Body_impl_Body_impl_Body__impl_SameBodies_1_c0 at h
  split at h
  · rename_i a0 a1
    cases h
    exact ⟨rfl, agree_need (mk := slices_EqualFunc___impl_Body___impl_Body_impl_Body_impl_Body__impl_SameBodies_1_mk) (t := slices_EqualFunc___impl_Body___impl_Body_impl_Body_impl_Body__impl_SameBodies_1_tree a0 a1) (by unfold Agree; kernel_rfl)⟩
  · cases h
def slices_EqualFunc___impl_Body___impl_Body_impl_Body_impl_Body__impl_SameBodies_1_c : Con := fun args => slices_EqualFunc___impl_Body___impl_Body_impl_Body_impl_Body__impl_SameBodies_1_c0 (norms 0 [.slc .body, .slc .body, .none] args)
set_option maxRecDepth 100000 in
theorem slices_EqualFunc___impl_Body___impl_Body_impl_Body_impl_Body__impl_SameBodies_1_ok : FunOK Try.prog 75 slices_EqualFunc___impl_Body___impl_Body_impl_Body_impl_Body__impl_SameBodies_1_c.fn := con_norm [.slc .body, .slc .body, .none] slices_EqualFunc___impl_Body___impl_Body_impl_Body_impl_Body__impl_SameBodies_1_ok0

/-- loop.example/g01284/impl.SameBodies -/
def impl_SameBodies_tree (a0 : List Body) (a1 : List Body) : DT (Bool) :=
  .need ((slices_EqualFunc___impl_Body___impl_Body_impl_Body_impl_Body__impl_SameBodies_1_need a0 a1 )) (
  let x0 := slices_EqualFunc___impl_Body___impl_Body_impl_Body_impl_Body__impl_SameBodies_1 a0 a1 ;
  .leaf x0)
def impl_SameBodies (a0 : List Body) (a1 : List Body) : Bool := (impl_SameBodies_tree a0 a1).val
def impl_SameBodies_need (a0 : List Body) (a1 : List Body) : Bool := (impl_SameBodies_tree a0 a1).ok
def impl_SameBodies_mk (p : Bool) : Ret := ⟨.bool p, []⟩
def impl_SameBodies_c0 : Con := fun args => match args with
  | [.vslc 1 .body a0, .vslc 2 .body a1] => some (.need (impl_SameBodies_need a0 a1) (.leaf (impl_SameBodies_mk (impl_SameBodies a0 a1))))
  | _ => none
set_option maxRecDepth 100000 in
theorem impl_SameBodies_ok0 : FunOK Try.prog 35 impl_SameBodies_c0.fn := by
  refine con_ok (Γ := gam [(75, slices_EqualFunc___impl_Body___impl_Body_impl_Body_impl_Body__impl_SameBodies_1_c)]) (gam_cons slices_EqualFunc___impl_Body___impl_Body_impl_Body_impl_Body__impl_SameBodies_1_ok (gam_nil)) tab_ok (by kernel_rfl) Try.func35 (by kernel_rfl) (by kernel_rfl) Try.ntmps35 Try.results35 (loopsOK_none rfl _) 100000 fun args t h => ?_
  unfold impl_SameBodies_c0 at h
  split at h
  · rename_i a0 a1
    cases h
    exact ⟨rfl, agree_need (mk := impl_SameBodies_mk) (t := impl_SameBodies_tree a0 a1) (by unfold Agree; kernel_rfl)⟩
  · cases h
def impl_SameBodies_c : Con := fun args => impl_SameBodies_c0 (norms 0 [.slc .body, .slc .body] args)
set_option maxRecDepth 100000 in
theorem impl_SameBodies_ok : FunOK Try.prog 35 impl_SameBodies_c.fn := con_norm [.slc .body, .slc .body] impl_SameBodies_ok0

/-- a loop of laws_FnPulls -/
def laws_FnPulls_loop0_step (p : List Int × List Body × List Vec × List Vec × List Vec) (s : Int × Nat × Nat × Nat) : Round (Int × Nat × Nat × Nat) ((Unit) ⊕ (Nat × Nat × Nat)) :=
  let x0 := ((List.length p.2.1 : Nat) : Int);
  let x1 := decide (s.1 < x0);
  .ask x1
  (
   .need ((decide (0 ≤ s.1) && decide (s.1 < ((List.length p.2.2.1 : Nat) : Int)))) (
   .need ((decide ((Int.toNat s.1) < List.length p.2.2.1))) (
   let x2 := List.getD p.2.2.1 (Int.toNat s.1) default;
   .need ((decide (0 ≤ s.1) && decide (s.1 < ((List.length p.2.1 : Nat) : Int)))) (
   .need ((decide ((Int.toNat s.1) < List.length p.2.1))) (
   let x3 := List.getD p.2.1 (Int.toNat s.1) default;
   let x4 := impl_ScaleVector (⟨x2.X, x2.Y, x2.Z⟩ : Vec) x3.Mass;
   let x5 := impl_AddVectors (⟨s.2.1, s.2.2.1, s.2.2.2⟩ : Vec) (⟨x4.X, x4.Y, x4.Z⟩ : Vec);
   .need ((decide (0 ≤ s.1) && decide (s.1 < ((List.length p.2.2.1 : Nat) : Int)))) (
   .need ((decide ((Int.toNat s.1) < List.length p.2.2.1))) (
   let x6 := List.getD p.2.2.1 (Int.toNat s.1) default;
   .need ((impl_SizeOfVector_need (⟨x6.X, x6.Y, x6.Z⟩ : Vec))) (
   let x7 := impl_SizeOfVector (⟨x6.X, x6.Y, x6.Z⟩ : Vec);
   .need ((fconvOk .f32 x7 .f64)) (
   let x8 := fconv .f32 x7 .f64;
   .need ((decide (0 ≤ s.1) && decide (s.1 < ((List.length p.2.2.1 : Nat) : Int)))) (
   .need ((decide ((Int.toNat s.1) < List.length p.2.2.1))) (
   let x9 := List.getD p.2.2.1 (Int.toNat s.1) default;
   .need ((decide (0 ≤ s.1) && decide (s.1 < ((List.length p.2.2.2.1 : Nat) : Int)))) (
   .need ((decide ((Int.toNat s.1) < List.length p.2.2.2.1))) (
   let x10 := List.getD p.2.2.2.1 (Int.toNat s.1) default;
   .need ((laws_r8Far_need (⟨x9.X, x9.Y, x9.Z⟩ : Vec) (⟨x10.X, x10.Y, x10.Z⟩ : Vec))) (
   let x11 := laws_r8Far (⟨x9.X, x9.Y, x9.Z⟩ : Vec) (⟨x10.X, x10.Y, x10.Z⟩ : Vec);
   let x12 := fadd .f64 4607182418800017408 x8;
   let x13 := fmul .f64 4562254508917369340 x12;
   let x14 := fgt .f64 x11 x13;
   .ask x14
   (
    .leaf (.inr (.inl ()), []))
   (
    .need ((decide (0 ≤ s.1) && decide (s.1 < ((List.length p.2.2.2.2 : Nat) : Int)))) (
    .need ((decide ((Int.toNat s.1) < List.length p.2.2.2.2))) (
    let x15 := List.getD p.2.2.2.2 (Int.toNat s.1) default;
    .need ((impl_SizeOfVector_need (⟨x15.X, x15.Y, x15.Z⟩ : Vec))) (
    let x16 := impl_SizeOfVector (⟨x15.X, x15.Y, x15.Z⟩ : Vec);
    .need ((fconvOk .f32 x16 .f64)) (
    let x17 := fconv .f32 x16 .f64;
    .need ((laws_r8Gap_need x8 x17)) (
    let x18 := laws_r8Gap x8 x17;
    let x19 := fadd .f64 4607182418800017408 x8;
    let x20 := fmul .f64 4562254508917369340 x19;
    let x21 := fgt .f64 x18 x20;
    .ask x21
    (
     .leaf (.inr (.inl ()), []))
    (
     .need ((decide (0 ≤ s.1) && decide (s.1 < ((List.length p.2.2.1 : Nat) : Int)))) (
     .need ((decide ((Int.toNat s.1) < List.length p.2.2.1))) (
     let x22 := List.getD p.2.2.1 (Int.toNat s.1) default;
     .need ((fconvOk .f32 x22.Z .f64)) (
     let x23 := fconv .f32 x22.Z .f64;
     .need ((decide (0 ≤ s.1) && decide (s.1 < ((List.length p.2.2.2.2 : Nat) : Int)))) (
     .need ((decide ((Int.toNat s.1) < List.length p.2.2.2.2))) (
     let x24 := List.getD p.2.2.2.2 (Int.toNat s.1) default;
     .need ((fconvOk .f32 x24.Z .f64)) (
     let x25 := fconv .f32 x24.Z .f64;
     .need ((laws_r8Gap_need x23 x25)) (
     let x26 := laws_r8Gap x23 x25;
     let x27 := fadd .f64 4607182418800017408 x8;
     let x28 := fmul .f64 4562254508917369340 x27;
     let x29 := fgt .f64 x26 x28;
     .ask x29
     (
      .leaf (.inr (.inl ()), []))
     (
      let x30 := IntKind.wrap .i64 (s.1 + 1);
      .leaf (.inl (x30, x5.X, x5.Y, x5.Z), [0, 1, 2, 3, 4]))))))))))))))))))))))))))))))
  (
   .leaf (.inr (.inr ((s.2.1, s.2.2.1, s.2.2.2))), [0, 4]))
def laws_FnPulls_loop0_L (p : List Int × List Body × List Vec × List Vec × List Vec) : LoopS (Int × Nat × Nat × Nat) ((Unit) ⊕ (Nat × Nat × Nat)) := { tl := fun s => [.junk, .vslc 2 (.int .u8) p.1, .junk, .junk, .junk, .own 0, .own 1, .junk, .junk, .junk, .own 2, .junk, .junk, .junk, .junk, .own 3, .junk, .ptr 4 0, .int .i64 s.1], hl := fun s => [some (.typed 72 .body p.2.1), some (.typed 49 .vec p.2.2.1), some (.typed 49 .vec p.2.2.2.1), some (.typed 49 .vec p.2.2.2.2), some (.cells [.flt .f32 s.2.1, .flt .f32 s.2.2.1, .flt .f32 s.2.2.2])], ex := fun r => match r with | .inl r => .ret | .inr r => .exit 0, otl := fun r => match r with | .inl r => [.junk, .junk, .junk, .junk, .bool false] | .inr r => [.junk, .vslc 2 (.int .u8) p.1, .junk, .junk, .junk, .own 0, .junk, .junk, .junk, .junk, .junk, .junk, .junk, .junk, .junk, .junk, .junk, .ptr 1 0], ohl := fun r => match r with | .inl r => [] | .inr r => [some (.typed 72 .body p.2.1), some (.cells [.flt .f32 r.1, .flt .f32 r.2.1, .flt .f32 r.2.2])] }
def laws_FnPulls_loop0_ext : St → Option ((List Int × List Body × List Vec × List Vec × List Vec) × (Int × Nat × Nat × Nat) × List Nat) := fun S => match (S.tm 1).unK, (S.tm 5).unK, (S.tm 6).unK, (S.tm 10).unK, (S.tm 15).unK, (S.tm 17).unK, (S.tm 18).unK with
  | .vslc 2 (.int .u8) q0, .own i0, .own i1, .own i2, .own i3, .ptr i4 0, .int .i64 q1 => (match S.hp i0 with
    | some (.typed 72 .body q2) => (match S.hp i1 with
    | some (.typed 49 .vec q3) => (match S.hp i2 with
    | some (.typed 49 .vec q4) => (match S.hp i3 with
    | some (.typed 49 .vec q5) => (match S.hp i4 with
    | some (.cells [.flt .f32 q6, .flt .f32 q7, .flt .f32 q8]) => (if nodup [i0, i1, i2, i3, i4] = true then some ((q0, q2, q3, q4, q5), (q1, q6, q7, q8), [i0, i1, i2, i3, i4]) else none)
    | _ => none)
    | _ => none)
    | _ => none)
    | _ => none)
    | _ => none)
  | _, _, _, _, _, _, _ => none
def laws_FnPulls_loop0_post (p : List Int × List Body × List Vec × List Vec × List Vec) (r : (Unit) ⊕ (Nat × Nat × Nat)) : DT (Ex × St) := .ask (isL r) (.leaf (.ret, LSt [.junk, .junk, .junk, .junk, .bool false] [])) (.leaf (.exit 0, LSt [.junk, .vslc 2 (.int .u8) p.1, .junk, .junk, .junk, .own 0, .junk, .junk, .junk, .junk, .junk, .junk, .junk, .junk, .junk, .junk, .junk, .ptr 1 0] [some (.typed 72 .body p.2.1), some (.cells [.flt .f32 ((rightD r).1), .flt .f32 ((rightD r).2.1), .flt .f32 ((rightD r).2.2)])]))
def laws_FnPulls_loop0 (p : List Int × List Body × List Vec × List Vec × List Vec) (s : Int × Nat × Nat × Nat) : (Unit) ⊕ (Nat × Nat × Nat) := loopVal (laws_FnPulls_loop0_step p) s
def laws_FnPulls_loop0_ends (p : List Int × List Body × List Vec × List Vec × List Vec) (s : Int × Nat × Nat × Nat) : Bool := loopEnds (laws_FnPulls_loop0_step p) s
def laws_FnPulls_loop0_F : LoopF := loopF laws_FnPulls_loop0_step laws_FnPulls_loop0_ext laws_FnPulls_loop0_post
set_option maxRecDepth 100000 in
theorem laws_FnPulls_loop0_hext : ∀ S p s fl, laws_FnPulls_loop0_ext S = some (p, s, fl) → Norm S fl ((laws_FnPulls_loop0_L p).tl s) ((laws_FnPulls_loop0_L p).hl s) (laws_FnPulls_loop0_L p).gl := by
  intro S p s fl h
  unfold laws_FnPulls_loop0_ext at h
  (repeat' split at h) <;> first
    | (cases h; constructor <;> simp_all [laws_FnPulls_loop0_L, keepT, keepH, rens, renH, PV.ren, Blk.ren, fOf, lget, nodup, natIn, lenEq, gtm, PV.unK])
    | cases h
set_option maxRecDepth 100000 in
theorem laws_FnPulls_loop0_hpost : ∀ p r e S', (laws_FnPulls_loop0_post p r).get = some (e, S') → e = (laws_FnPulls_loop0_L p).ex r ∧ S' = LSt ((laws_FnPulls_loop0_L p).otl r) ((laws_FnPulls_loop0_L p).ohl r) ((laws_FnPulls_loop0_L p).ogl r) := by
  intro p r e S' h
  unfold laws_FnPulls_loop0_post at h
  cases r <;> (simp only [isL, DT.get, Option.some.injEq, Prod.mk.injEq] at h; exact ⟨h.1.symm, h.2.symm⟩)

/-- a loop of laws_FnPulls -/
def laws_FnPulls_loop1_step (p : Bool × List Body × Nat × Nat × Nat × Nat × Nat × Nat × Nat × Nat × Nat) (s : Int × Nat × Nat × Nat) : Round (Int × Nat × Nat × Nat) ((Unit) ⊕ (Nat × Nat × Nat)) :=
  let x0 := ((List.length p.2.1 : Nat) : Int);
  let x1 := decide (s.1 < x0);
  .ask x1
  (
   let x2 := IntKind.wrap .i64 (s.1 + 1);
   .need ((decide (0 ≤ x2) && decide (x2 ≤ ((List.length p.2.1 : Nat) : Int)))) (
   .need ((decide (0 ≤ s.1) && decide (s.1 ≤ (((Int.toNat x2) : Nat) : Int)))) (
   .need ((decide ((Int.toNat s.1) + ((Int.toNat x2) - (Int.toNat s.1)) ≤ List.length p.2.1))) (
   let x3 := List.take ((Int.toNat x2) - (Int.toNat s.1)) (List.drop (Int.toNat s.1) p.2.1);
   .need ((impl_PullAt_need x3 (⟨p.2.2.2.2.2.1, p.2.2.2.2.2.2.1, p.2.2.2.2.2.2.2.1⟩ : Vec) 1048576000)) (
   let x4 := impl_PullAt x3 (⟨p.2.2.2.2.2.1, p.2.2.2.2.2.2.1, p.2.2.2.2.2.2.2.1⟩ : Vec) 1048576000;
   .ask (!x4.2)
   (
    .leaf (.inr (.inl ()), []))
   (
    let x5 := impl_AddVectors (⟨s.2.1, s.2.2.1, s.2.2.2⟩ : Vec) (⟨x4.1.X, x4.1.Y, x4.1.Z⟩ : Vec);
    let x6 := IntKind.wrap .i64 (s.1 + 1);
    .leaf (.inl (x6, x5.X, x5.Y, x5.Z), [0, 1, 2, 3, 4])))))))
  (
   .leaf (.inr (.inr ((s.2.1, s.2.2.1, s.2.2.2))), [0, 1, 2, 3, 4]))
def laws_FnPulls_loop1_L (p : Bool × List Body × Nat × Nat × Nat × Nat × Nat × Nat × Nat × Nat × Nat) : LoopS (Int × Nat × Nat × Nat) ((Unit) ⊕ (Nat × Nat × Nat)) := { tl := fun s => [.junk, .junk, .junk, .junk, .junk, .own 0, .junk, .junk, .junk, .junk, .junk, .junk, .junk, .junk, .junk, .junk, .junk, .ptr 1 0, .junk, .junk, .ptr 2 0, .ptr 3 0, .bool p.1, .ptr 4 0, .int .i64 s.1], hl := fun s => [some (.typed 72 .body p.2.1), some (.cells [.flt .f32 p.2.2.1, .flt .f32 p.2.2.2.1, .flt .f32 p.2.2.2.2.1]), some (.cells [.flt .f32 p.2.2.2.2.2.1, .flt .f32 p.2.2.2.2.2.2.1, .flt .f32 p.2.2.2.2.2.2.2.1]), some (.cells [.flt .f32 p.2.2.2.2.2.2.2.2.1, .flt .f32 p.2.2.2.2.2.2.2.2.2.1, .flt .f32 p.2.2.2.2.2.2.2.2.2.2]), some (.cells [.flt .f32 s.2.1, .flt .f32 s.2.2.1, .flt .f32 s.2.2.2])], ex := fun r => match r with | .inl r => .ret | .inr r => .exit 2, otl := fun r => match r with | .inl r => [.junk, .junk, .junk, .junk, .bool false] | .inr r => [.junk, .junk, .junk, .junk, .junk, .own 0, .junk, .junk, .junk, .junk, .junk, .junk, .junk, .junk, .junk, .junk, .junk, .ptr 1 0, .junk, .junk, .ptr 2 0, .ptr 3 0, .bool p.1, .ptr 4 0], ohl := fun r => match r with | .inl r => [] | .inr r => [some (.typed 72 .body p.2.1), some (.cells [.flt .f32 p.2.2.1, .flt .f32 p.2.2.2.1, .flt .f32 p.2.2.2.2.1]), some (.cells [.flt .f32 p.2.2.2.2.2.1, .flt .f32 p.2.2.2.2.2.2.1, .flt .f32 p.2.2.2.2.2.2.2.1]), some (.cells [.flt .f32 p.2.2.2.2.2.2.2.2.1, .flt .f32 p.2.2.2.2.2.2.2.2.2.1, .flt .f32 p.2.2.2.2.2.2.2.2.2.2]), some (.cells [.flt .f32 r.1, .flt .f32 r.2.1, .flt .f32 r.2.2])] }
def laws_FnPulls_loop1_ext : St → Option ((Bool × List Body × Nat × Nat × Nat × Nat × Nat × Nat × Nat × Nat × Nat) × (Int × Nat × Nat × Nat) × List Nat) := fun S => match (S.tm 5).unK, (S.tm 17).unK, (S.tm 20).unK, (S.tm 21).unK, (S.tm 22).unK, (S.tm 23).unK, (S.tm 24).unK with
  | .own i0, .ptr i1 0, .ptr i2 0, .ptr i3 0, .bool q0, .ptr i4 0, .int .i64 q1 => (match S.hp i0 with
    | some (.typed 72 .body q2) => (match S.hp i1 with
    | some (.cells [.flt .f32 q3, .flt .f32 q4, .flt .f32 q5]) => (match S.hp i2 with
    | some (.cells [.flt .f32 q6, .flt .f32 q7, .flt .f32 q8]) => (match S.hp i3 with
    | some (.cells [.flt .f32 q9, .flt .f32 q10, .flt .f32 q11]) => (match S.hp i4 with
    | some (.cells [.flt .f32 q12, .flt .f32 q13, .flt .f32 q14]) => (if nodup [i0, i1, i2, i3, i4] = true then some ((q0, q2, q3, q4, q5, q6, q7, q8, q9, q10, q11), (q1, q12, q13, q14), [i0, i1, i2, i3, i4]) else none)
    | _ => none)
    | _ => none)
    | _ => none)
    | _ => none)
    | _ => none)
  | _, _, _, _, _, _, _ => none
def laws_FnPulls_loop1_post (p : Bool × List Body × Nat × Nat × Nat × Nat × Nat × Nat × Nat × Nat × Nat) (r : (Unit) ⊕ (Nat × Nat × Nat)) : DT (Ex × St) := .ask (isL r) (.leaf (.ret, LSt [.junk, .junk, .junk, .junk, .bool false] [])) (.leaf (.exit 2, LSt [.junk, .junk, .junk, .junk, .junk, .own 0, .junk, .junk, .junk, .junk, .junk, .junk, .junk, .junk, .junk, .junk, .junk, .ptr 1 0, .junk, .junk, .ptr 2 0, .ptr 3 0, .bool p.1, .ptr 4 0] [some (.typed 72 .body p.2.1), some (.cells [.flt .f32 p.2.2.1, .flt .f32 p.2.2.2.1, .flt .f32 p.2.2.2.2.1]), some (.cells [.flt .f32 p.2.2.2.2.2.1, .flt .f32 p.2.2.2.2.2.2.1, .flt .f32 p.2.2.2.2.2.2.2.1]), some (.cells [.flt .f32 p.2.2.2.2.2.2.2.2.1, .flt .f32 p.2.2.2.2.2.2.2.2.2.1, .flt .f32 p.2.2.2.2.2.2.2.2.2.2]), some (.cells [.flt .f32 ((rightD r).1), .flt .f32 ((rightD r).2.1), .flt .f32 ((rightD r).2.2)])]))
def laws_FnPulls_loop1 (p : Bool × List Body × Nat × Nat × Nat × Nat × Nat × Nat × Nat × Nat × Nat) (s : Int × Nat × Nat × Nat) : (Unit) ⊕ (Nat × Nat × Nat) := loopVal (laws_FnPulls_loop1_step p) s
def laws_FnPulls_loop1_ends (p : Bool × List Body × Nat × Nat × Nat × Nat × Nat × Nat × Nat × Nat × Nat) (s : Int × Nat × Nat × Nat) : Bool := loopEnds (laws_FnPulls_loop1_step p) s
def laws_FnPulls_loop1_F : LoopF := loopF laws_FnPulls_loop1_step laws_FnPulls_loop1_ext laws_FnPulls_loop1_post
set_option maxRecDepth 100000 in
theorem laws_FnPulls_loop1_hext : ∀ S p s fl, laws_FnPulls_loop1_ext S = some (p, s, fl) → Norm S fl ((laws_FnPulls_loop1_L p).tl s) ((laws_FnPulls_loop1_L p).hl s) (laws_FnPulls_loop1_L p).gl := by
  intro S p s fl h
  unfold laws_FnPulls_loop1_ext at h
  (repeat' split at h) <;> first
    | (cases h; constructor <;> simp_all [laws_FnPulls_loop1_L, keepT, keepH, rens, renH, PV.ren, Blk.ren, fOf, lget, nodup, natIn, lenEq, gtm, PV.unK])
    | cases h
set_option maxRecDepth 100000 in
theorem laws_FnPulls_loop1_hpost : ∀ p r e S', (laws_FnPulls_loop1_post p r).get = some (e, S') → e = (laws_FnPulls_loop1_L p).ex r ∧ S' = LSt ((laws_FnPulls_loop1_L p).otl r) ((laws_FnPulls_loop1_L p).ohl r) ((laws_FnPulls_loop1_L p).ogl r) := by
  intro p r e S' h
  unfold laws_FnPulls_loop1_post at h
  cases r <;> (simp only [isL, DT.get, Option.some.injEq, Prod.mk.injEq] at h; exact ⟨h.1.symm, h.2.symm⟩)

def laws_FnPulls_loops : Nat → Option LoopF := loopTab [(14, laws_FnPulls_loop0_F), (24, laws_FnPulls_loop1_F)]
set_option maxRecDepth 100000 in
theorem laws_FnPulls_l1 : LoopOK Try.prog ⟨gam [(5, laws_r8Long_c), (6, laws_r8At_c), (23, spec_R8Bodies_c), (24, impl_PullsOf_c), (26, spec_R8Vector_c), (25, impl_MoveBodies_c), (27, impl_TurnBodies_c), (21, impl_ScaleVector_c), (28, impl_AddVectors_c), (29, impl_SizeOfVector_c), (30, laws_r8Far_c), (31, laws_r8Gap_c), (32, impl_PullAt_c), (33, impl_MirrorBodies_c), (34, impl_DropBody_c), (35, impl_SameBodies_c)], tab, 295, laws_FnPulls_loops⟩ (lp Try.f4 1) :=
  loopOK_some (F := laws_FnPulls_loop1_F) (by kernel_rfl) (loopF_ok (E := ⟨gam [(5, laws_r8Long_c), (6, laws_r8At_c), (23, spec_R8Bodies_c), (24, impl_PullsOf_c), (26, spec_R8Vector_c), (25, impl_MoveBodies_c), (27, impl_TurnBodies_c), (21, impl_ScaleVector_c), (28, impl_AddVectors_c), (29, impl_SizeOfVector_c), (30, laws_r8Far_c), (31, laws_r8Gap_c), (32, impl_PullAt_c), (33, impl_MirrorBodies_c), (34, impl_DropBody_c), (35, impl_SameBodies_c)], tab, 295, laws_FnPulls_loops⟩) ⟨gam_cons laws_r8Long_ok (gam_cons laws_r8At_ok (gam_cons spec_R8Bodies_ok (gam_cons impl_PullsOf_ok (gam_cons spec_R8Vector_ok (gam_cons impl_MoveBodies_ok (gam_cons impl_TurnBodies_ok (gam_cons impl_ScaleVector_ok (gam_cons impl_AddVectors_ok (gam_cons impl_SizeOfVector_ok (gam_cons laws_r8Far_ok (gam_cons laws_r8Gap_ok (gam_cons impl_PullAt_ok (gam_cons impl_MirrorBodies_ok (gam_cons impl_DropBody_ok (gam_cons impl_SameBodies_ok (gam_nil)))))))))))))))), tab_ok, by kernel_rfl⟩ (fuel := 100000) (loopsOK_list (l := []) (by kernel_rfl) trivial) (L := laws_FnPulls_loop1_L) (fun p s => by unfold AgreeL; exact ⟨by kernel_rfl, by kernel_rfl⟩) (fun _ r h => by cases r <;> exact Ex.noConfusion h) laws_FnPulls_loop1_hext laws_FnPulls_loop1_hpost)
set_option maxRecDepth 100000 in
theorem laws_FnPulls_l0 : LoopOK Try.prog ⟨gam [(5, laws_r8Long_c), (6, laws_r8At_c), (23, spec_R8Bodies_c), (24, impl_PullsOf_c), (26, spec_R8Vector_c), (25, impl_MoveBodies_c), (27, impl_TurnBodies_c), (21, impl_ScaleVector_c), (28, impl_AddVectors_c), (29, impl_SizeOfVector_c), (30, laws_r8Far_c), (31, laws_r8Gap_c), (32, impl_PullAt_c), (33, impl_MirrorBodies_c), (34, impl_DropBody_c), (35, impl_SameBodies_c)], tab, 295, laws_FnPulls_loops⟩ (lp Try.f4 0) :=
  loopOK_some (F := laws_FnPulls_loop0_F) (by kernel_rfl) (loopF_ok (E := ⟨gam [(5, laws_r8Long_c), (6, laws_r8At_c), (23, spec_R8Bodies_c), (24, impl_PullsOf_c), (26, spec_R8Vector_c), (25, impl_MoveBodies_c), (27, impl_TurnBodies_c), (21, impl_ScaleVector_c), (28, impl_AddVectors_c), (29, impl_SizeOfVector_c), (30, laws_r8Far_c), (31, laws_r8Gap_c), (32, impl_PullAt_c), (33, impl_MirrorBodies_c), (34, impl_DropBody_c), (35, impl_SameBodies_c)], tab, 295, laws_FnPulls_loops⟩) ⟨gam_cons laws_r8Long_ok (gam_cons laws_r8At_ok (gam_cons spec_R8Bodies_ok (gam_cons impl_PullsOf_ok (gam_cons spec_R8Vector_ok (gam_cons impl_MoveBodies_ok (gam_cons impl_TurnBodies_ok (gam_cons impl_ScaleVector_ok (gam_cons impl_AddVectors_ok (gam_cons impl_SizeOfVector_ok (gam_cons laws_r8Far_ok (gam_cons laws_r8Gap_ok (gam_cons impl_PullAt_ok (gam_cons impl_MirrorBodies_ok (gam_cons impl_DropBody_ok (gam_cons impl_SameBodies_ok (gam_nil)))))))))))))))), tab_ok, by kernel_rfl⟩ (fuel := 100000) (loopsOK_list (l := []) (by kernel_rfl) trivial) (L := laws_FnPulls_loop0_L) (fun p s => by unfold AgreeL; exact ⟨by kernel_rfl, by kernel_rfl⟩) (fun _ r h => by cases r <;> exact Ex.noConfusion h) laws_FnPulls_loop0_hext laws_FnPulls_loop0_hpost)
/-- loop.example/g01284/laws.FnPulls -/
def laws_FnPulls_tree (a0 : List Int) (a1 : List Int) : DT (Bool) :=
  let x0 := laws_r8Long a0 a1;
  .ask x0
  (
   .leaf true)
  (
   .need ((laws_r8At_need a1 0 3)) (
   let x1 := laws_r8At a1 0 3;
   let x2 := IntKind.wrap .i64 (2 + x1);
   .need ((spec_R8Bodies_need a0 x2)) (
   let x3 := spec_R8Bodies a0 x2;
   .need ((impl_PullsOf_need x3 1048576000)) (
   let x4 := impl_PullsOf x3 1048576000;
   .ask ((isL x4))
   (
    .need ((spec_R8Vector_need a1 1)) (
    let x5 := spec_R8Vector a1 1;
    .need ((spec_R8Vector_need a1 4)) (
    let x6 := spec_R8Vector a1 4;
    .need ((impl_MoveBodies_need x3 (⟨x5.X, x5.Y, x5.Z⟩ : Vec) (⟨x6.X, x6.Y, x6.Z⟩ : Vec))) (
    let x7 := impl_MoveBodies x3 (⟨x5.X, x5.Y, x5.Z⟩ : Vec) (⟨x6.X, x6.Y, x6.Z⟩ : Vec);
    .ask ((isL x7))
    (
     .need ((impl_PullsOf_need [] 1048576000)) (
     let x8 := impl_PullsOf [] 1048576000;
     .ask ((isL x8))
     (
      .need ((laws_r8At_need a1 7 16)) (
      let x9 := laws_r8At a1 7 16;
      let x10 := fofInt .f32 x9;
      let x11 := fdiv .f32 x10 1098907648;
      .need ((impl_TurnBodies_need x3 x11)) (
      let x12 := impl_TurnBodies x3 x11;
      .ask ((isL x12))
      (
       .need ((impl_PullsOf_need [] 1048576000)) (
       let x13 := impl_PullsOf [] 1048576000;
       .ask ((isL x13))
       (
        .skip (
        .skip (
        .skip (
        .leaf false))))
       (
        .skip (
        .skip (
        .skip (
        .leaf false))))))
      (
       .need ((impl_PullsOf_need ((rightD x12)) 1048576000)) (
       let x13 := impl_PullsOf ((rightD x12)) 1048576000;
       .ask ((isL x13))
       (
        .skip (
        .skip (
        .skip (
        .leaf false))))
       (
        .skip (
        .skip (
        .skip (
        .leaf false)))))))))
     (
      .need ((laws_r8At_need a1 7 16)) (
      let x9 := laws_r8At a1 7 16;
      let x10 := fofInt .f32 x9;
      let x11 := fdiv .f32 x10 1098907648;
      .need ((impl_TurnBodies_need x3 x11)) (
      let x12 := impl_TurnBodies x3 x11;
      .ask ((isL x12))
      (
       .need ((impl_PullsOf_need [] 1048576000)) (
       let x13 := impl_PullsOf [] 1048576000;
       .ask ((isL x13))
       (
        .skip (
        .skip (
        .skip (
        .leaf false))))
       (
        .skip (
        .skip (
        .skip (
        .leaf false))))))
      (
       .need ((impl_PullsOf_need ((rightD x12)) 1048576000)) (
       let x13 := impl_PullsOf ((rightD x12)) 1048576000;
       .ask ((isL x13))
       (
        .skip (
        .skip (
        .skip (
        .leaf false))))
       (
        .skip (
        .skip (
        .skip (
        .leaf false)))))))))))
    (
     .need ((impl_PullsOf_need ((rightD x7)) 1048576000)) (
     let x8 := impl_PullsOf ((rightD x7)) 1048576000;
     .ask ((isL x8))
     (
      .need ((laws_r8At_need a1 7 16)) (
      let x9 := laws_r8At a1 7 16;
      let x10 := fofInt .f32 x9;
      let x11 := fdiv .f32 x10 1098907648;
      .need ((impl_TurnBodies_need x3 x11)) (
      let x12 := impl_TurnBodies x3 x11;
      .ask ((isL x12))
      (
       .need ((impl_PullsOf_need [] 1048576000)) (
       let x13 := impl_PullsOf [] 1048576000;
       .ask ((isL x13))
       (
        .skip (
        .skip (
        .skip (
        .leaf false))))
       (
        .skip (
        .skip (
        .skip (
        .leaf false))))))
      (
       .need ((impl_PullsOf_need ((rightD x12)) 1048576000)) (
       let x13 := impl_PullsOf ((rightD x12)) 1048576000;
       .ask ((isL x13))
       (
        .skip (
        .skip (
        .skip (
        .leaf false))))
       (
        .skip (
        .skip (
        .skip (
        .leaf false)))))))))
     (
      .need ((laws_r8At_need a1 7 16)) (
      let x9 := laws_r8At a1 7 16;
      let x10 := fofInt .f32 x9;
      let x11 := fdiv .f32 x10 1098907648;
      .need ((impl_TurnBodies_need x3 x11)) (
      let x12 := impl_TurnBodies x3 x11;
      .ask ((isL x12))
      (
       .need ((impl_PullsOf_need [] 1048576000)) (
       let x13 := impl_PullsOf [] 1048576000;
       .ask ((isL x13))
       (
        .skip (
        .skip (
        .skip (
        .leaf false))))
       (
        .skip (
        .skip (
        .skip (
        .leaf false))))))
      (
       .need ((impl_PullsOf_need ((rightD x12)) 1048576000)) (
       let x13 := impl_PullsOf ((rightD x12)) 1048576000;
       .ask ((isL x13))
       (
        .skip (
        .skip (
        .skip (
        .leaf false))))
       (
        .skip (
        .skip (
        .skip (
        .leaf false)))))))))))))))
   (
    .need ((spec_R8Vector_need a1 1)) (
    let x5 := spec_R8Vector a1 1;
    .need ((spec_R8Vector_need a1 4)) (
    let x6 := spec_R8Vector a1 4;
    .need ((impl_MoveBodies_need x3 (⟨x5.X, x5.Y, x5.Z⟩ : Vec) (⟨x6.X, x6.Y, x6.Z⟩ : Vec))) (
    let x7 := impl_MoveBodies x3 (⟨x5.X, x5.Y, x5.Z⟩ : Vec) (⟨x6.X, x6.Y, x6.Z⟩ : Vec);
    .ask ((isL x7))
    (
     .need ((impl_PullsOf_need [] 1048576000)) (
     let x8 := impl_PullsOf [] 1048576000;
     .ask ((isL x8))
     (
      .need ((laws_r8At_need a1 7 16)) (
      let x9 := laws_r8At a1 7 16;
      let x10 := fofInt .f32 x9;
      let x11 := fdiv .f32 x10 1098907648;
      .need ((impl_TurnBodies_need x3 x11)) (
      let x12 := impl_TurnBodies x3 x11;
      .ask ((isL x12))
      (
       .need ((impl_PullsOf_need [] 1048576000)) (
       let x13 := impl_PullsOf [] 1048576000;
       .ask ((isL x13))
       (
        .skip (
        .skip (
        .skip (
        .skip (
        .skip (
        .skip (
        .leaf false)))))))
       (
        .skip (
        .skip (
        .skip (
        .skip (
        .skip (
        .skip (
        .leaf false)))))))))
      (
       .need ((impl_PullsOf_need ((rightD x12)) 1048576000)) (
       let x13 := impl_PullsOf ((rightD x12)) 1048576000;
       .ask ((isL x13))
       (
        .skip (
        .skip (
        .skip (
        .skip (
        .skip (
        .skip (
        .leaf false)))))))
       (
        .skip (
        .skip (
        .skip (
        .skip (
        .skip (
        .skip (
        .leaf false))))))))))))
     (
      .need ((laws_r8At_need a1 7 16)) (
      let x9 := laws_r8At a1 7 16;
      let x10 := fofInt .f32 x9;
      let x11 := fdiv .f32 x10 1098907648;
      .need ((impl_TurnBodies_need x3 x11)) (
      let x12 := impl_TurnBodies x3 x11;
      .ask ((isL x12))
      (
       .need ((impl_PullsOf_need [] 1048576000)) (
       let x13 := impl_PullsOf [] 1048576000;
       .ask ((isL x13))
       (
        .skip (
        .skip (
        .skip (
        .skip (
        .skip (
        .skip (
        .leaf false)))))))
       (
        .skip (
        .skip (
        .skip (
        .skip (
        .skip (
        .skip (
        .leaf false)))))))))
      (
       .need ((impl_PullsOf_need ((rightD x12)) 1048576000)) (
       let x13 := impl_PullsOf ((rightD x12)) 1048576000;
       .ask ((isL x13))
       (
        .skip (
        .skip (
        .skip (
        .skip (
        .skip (
        .skip (
        .leaf false)))))))
       (
        .skip (
        .skip (
        .skip (
        .skip (
        .skip (
        .skip (
        .leaf false))))))))))))))
    (
     .need ((impl_PullsOf_need ((rightD x7)) 1048576000)) (
     let x8 := impl_PullsOf ((rightD x7)) 1048576000;
     .ask ((isL x8))
     (
      .need ((laws_r8At_need a1 7 16)) (
      let x9 := laws_r8At a1 7 16;
      let x10 := fofInt .f32 x9;
      let x11 := fdiv .f32 x10 1098907648;
      .need ((impl_TurnBodies_need x3 x11)) (
      let x12 := impl_TurnBodies x3 x11;
      .ask ((isL x12))
      (
       .need ((impl_PullsOf_need [] 1048576000)) (
       let x13 := impl_PullsOf [] 1048576000;
       .ask ((isL x13))
       (
        .skip (
        .skip (
        .skip (
        .skip (
        .skip (
        .skip (
        .skip (
        .skip (
        .skip (
        .leaf false))))))))))
       (
        .skip (
        .skip (
        .skip (
        .skip (
        .skip (
        .skip (
        .skip (
        .skip (
        .skip (
        .leaf false))))))))))))
      (
       .need ((impl_PullsOf_need ((rightD x12)) 1048576000)) (
       let x13 := impl_PullsOf ((rightD x12)) 1048576000;
       .ask ((isL x13))
       (
        .skip (
        .skip (
        .skip (
        .skip (
        .skip (
        .skip (
        .skip (
        .skip (
        .skip (
        .leaf false))))))))))
       (
        .skip (
        .skip (
        .skip (
        .skip (
        .skip (
        .skip (
        .skip (
        .skip (
        .skip (
        .leaf false)))))))))))))))
     (
      .need ((laws_r8At_need a1 7 16)) (
      let x9 := laws_r8At a1 7 16;
      let x10 := fofInt .f32 x9;
      let x11 := fdiv .f32 x10 1098907648;
      .need ((impl_TurnBodies_need x3 x11)) (
      let x12 := impl_TurnBodies x3 x11;
      .ask ((isL x12))
      (
       .need ((impl_PullsOf_need [] 1048576000)) (
       let x13 := impl_PullsOf [] 1048576000;
       .ask ((isL x13))
       (
        .skip (
        .skip (
        .skip (
        .skip (
        .skip (
        .skip (
        .skip (
        .skip (
        .skip (
        .skip (
        .skip (
        .skip (
        .leaf false)))))))))))))
       (
        .skip (
        .skip (
        .skip (
        .skip (
        .skip (
        .skip (
        .skip (
        .skip (
        .skip (
        .skip (
        .skip (
        .skip (
        .leaf false)))))))))))))))
      (
       .need ((impl_PullsOf_need ((rightD x12)) 1048576000)) (
       let x13 := impl_PullsOf ((rightD x12)) 1048576000;
       .ask ((isL x13))
       (
        .skip (
        .skip (
        .skip (
        .skip (
        .skip (
        .skip (
        .skip (
        .skip (
        .skip (
        .skip (
        .skip (
        .skip (
        .skip (
        .skip (
        .skip (
        .skip (
        .skip (
        .skip (
        .leaf false)))))))))))))))))))
       (
        .skip (
        .skip (
        .skip (
        .skip (
        .skip (
        .skip (
        .skip (
        .skip (
        .skip (
        .skip (
        .skip (
        .skip (
        .skip (
        .skip (
        let x14 := ((List.length (rightD x4) : Nat) : Int);
        .skip (
        .skip (
        let x15 := ((List.length x3 : Nat) : Int);
        .skip (
        let x16 := (x14 != x15);
        .skip (
        .ask x16
        (
         .leaf false)
        (
         let x17 := ((List.length (rightD x8) : Nat) : Int);
         let x18 := ((List.length x3 : Nat) : Int);
         let x19 := (x17 != x18);
         .ask x19
         (
          .leaf false)
         (
          let x20 := ((List.length (rightD x13) : Nat) : Int);
          let x21 := ((List.length x3 : Nat) : Int);
          let x22 := (x20 != x21);
          .ask x22
          (
           .leaf false)
          (
           .need ((laws_FnPulls_loop0_ends (a1, x3, (rightD x4), (rightD x8), (rightD x13)) (0, 0, 0, 0))) (
           let x23 := laws_FnPulls_loop0 (a1, x3, (rightD x4), (rightD x8), (rightD x13)) (0, 0, 0, 0);
           .ask ((isL x23))
           (
            .leaf false)
           (
            .need ((spec_R8Vector_need a1 8)) (
            let x24 := spec_R8Vector a1 8;
            .need ((impl_PullAt_need x3 (⟨x24.X, x24.Y, x24.Z⟩ : Vec) 1048576000)) (
            let x25 := impl_PullAt x3 (⟨x24.X, x24.Y, x24.Z⟩ : Vec) 1048576000;
            .need ((laws_FnPulls_loop1_ends (x25.2, x3, (rightD x23).1, (rightD x23).2.1, (rightD x23).2.2, x24.X, x24.Y, x24.Z, x25.1.X, x25.1.Y, x25.1.Z) (0, 0, 0, 0))) (
            let x26 := laws_FnPulls_loop1 (x25.2, x3, (rightD x23).1, (rightD x23).2.1, (rightD x23).2.2, x24.X, x24.Y, x24.Z, x25.1.X, x25.1.Y, x25.1.Z) (0, 0, 0, 0);
            .ask ((isL x26))
            (
             .leaf false)
            (
             .need ((impl_PullAt_need [] (⟨x24.X, x24.Y, x24.Z⟩ : Vec) 1048576000)) (
             let x27 := impl_PullAt [] (⟨x24.X, x24.Y, x24.Z⟩ : Vec) 1048576000;
             .need ((impl_MirrorBodies_need x3)) (
             let x28 := impl_MirrorBodies x3;
             .ask ((isL x28))
             (
              .need ((impl_MirrorBodies_need [])) (
              let x29 := impl_MirrorBodies [];
              .ask ((isL x29))
              (
               .need ((impl_DropBody_need x3 0)) (
               let x30 := impl_DropBody x3 0;
               .ask ((isL x30))
               (
                .ask (!x25.2)
                (
                 .leaf false)
                (
                 .ask (!x27.2)
                 (
                  .leaf false)
                 (
                  .skip (
                  .skip (
                  .skip (
                  .leaf false))))))
               (
                .ask (!x25.2)
                (
                 .leaf false)
                (
                 .ask (!x27.2)
                 (
                  .leaf false)
                 (
                  .skip (
                  .skip (
                  .skip (
                  .leaf false))))))))
              (
               .need ((impl_DropBody_need x3 0)) (
               let x30 := impl_DropBody x3 0;
               .ask ((isL x30))
               (
                .ask (!x25.2)
                (
                 .leaf false)
                (
                 .ask (!x27.2)
                 (
                  .leaf false)
                 (
                  .skip (
                  .skip (
                  .skip (
                  .leaf false))))))
               (
                .ask (!x25.2)
                (
                 .leaf false)
                (
                 .ask (!x27.2)
                 (
                  .leaf false)
                 (
                  .skip (
                  .skip (
                  .skip (
                  .leaf false))))))))))
             (
              .need ((impl_MirrorBodies_need ((rightD x28)))) (
              let x29 := impl_MirrorBodies ((rightD x28));
              .ask ((isL x29))
              (
               .need ((impl_DropBody_need x3 0)) (
               let x30 := impl_DropBody x3 0;
               .ask ((isL x30))
               (
                .ask (!x25.2)
                (
                 .leaf false)
                (
                 .ask (!x27.2)
                 (
                  .leaf false)
                 (
                  .skip (
                  .skip (
                  .skip (
                  .skip (
                  .skip (
                  .skip (
                  .leaf false)))))))))
               (
                .ask (!x25.2)
                (
                 .leaf false)
                (
                 .ask (!x27.2)
                 (
                  .leaf false)
                 (
                  .skip (
                  .skip (
                  .skip (
                  .skip (
                  .skip (
                  .skip (
                  .leaf false)))))))))))
              (
               .need ((impl_DropBody_need x3 0)) (
               let x30 := impl_DropBody x3 0;
               .ask ((isL x30))
               (
                .ask (!x25.2)
                (
                 .leaf false)
                (
                 .ask (!x27.2)
                 (
                  .leaf false)
                 (
                  .skip (
                  .skip (
                  .skip (
                  .skip (
                  .skip (
                  let x31 := (!(leftD x30));
                  .skip (
                  .ask x31
                  (
                   .leaf false)
                  (
                   .need ((impl_SameBodies_need ((rightD x29)) x3)) (
                   let x32 := impl_SameBodies ((rightD x29)) x3;
                   .ask (!x32)
                   (
                    .leaf false)
                   (
                    let x33 := ((List.length x3 : Nat) : Int);
                    let x34 := IntKind.wrap .i64 (x33 - 1);
                    let x35 := (0 != x34);
                    .ask x35
                    (
                     .leaf false)
                    (
                     .need ((decide (0 ≤ 1) && decide (1 ≤ (((List.length x3) : Nat) : Int)))) (
                     .need ((decide (1 + ((List.length x3) - 1) ≤ List.length x3))) (
                     let x36 := List.take ((List.length x3) - 1) (List.drop 1 x3);
                     .need ((impl_SameBodies_need [] x36)) (
                     let x37 := impl_SameBodies [] x36;
                     .ask (!x37)
                     (
                      .leaf false)
                     (
                      .need ((impl_SizeOfVector_need (⟨(rightD x23).1, (rightD x23).2.1, (rightD x23).2.2⟩ : Vec))) (
                      let x38 := impl_SizeOfVector (⟨(rightD x23).1, (rightD x23).2.1, (rightD x23).2.2⟩ : Vec);
                      let x39 := flt .f32 x38 1008981770;
                      .ask x39
                      (
                       .need ((laws_r8Far_need (⟨x25.1.X, x25.1.Y, x25.1.Z⟩ : Vec) (⟨(rightD x26).1, (rightD x26).2.1, (rightD x26).2.2⟩ : Vec))) (
                       let x40 := laws_r8Far (⟨x25.1.X, x25.1.Y, x25.1.Z⟩ : Vec) (⟨(rightD x26).1, (rightD x26).2.1, (rightD x26).2.2⟩ : Vec);
                       .need ((impl_SizeOfVector_need (⟨x25.1.X, x25.1.Y, x25.1.Z⟩ : Vec))) (
                       let x41 := impl_SizeOfVector (⟨x25.1.X, x25.1.Y, x25.1.Z⟩ : Vec);
                       .need ((fconvOk .f32 x41 .f64)) (
                       let x42 := fconv .f32 x41 .f64;
                       let x43 := fadd .f64 4607182418800017408 x42;
                       let x44 := fmul .f64 4562254508917369340 x43;
                       let x45 := flt .f64 x40 x44;
                       .ask x45
                       (
                        .need ((impl_SizeOfVector_need (⟨x27.1.X, x27.1.Y, x27.1.Z⟩ : Vec))) (
                        let x46 := impl_SizeOfVector (⟨x27.1.X, x27.1.Y, x27.1.Z⟩ : Vec);
                        let x47 := feq .f32 x46 0;
                        .leaf x47))
                       (
                        .leaf false)))))
                      (
                       .leaf false)))))))))))))))))))
               (
                .ask (!x25.2)
                (
                 .leaf false)
                (
                 .ask (!x27.2)
                 (
                  .leaf false)
                 (
                  .skip (
                  .skip (
                  .skip (
                  .skip (
                  .skip (
                  .skip (
                  .skip (
                  .skip (
                  .skip (
                  .need ((impl_SameBodies_need ((rightD x29)) x3)) (
                  let x31 := impl_SameBodies ((rightD x29)) x3;
                  .skip (
                  .skip (
                  .ask (!x31)
                  (
                   .leaf false)
                  (
                   let x32 := ((List.length (rightD x30) : Nat) : Int);
                   let x33 := ((List.length x3 : Nat) : Int);
                   let x34 := IntKind.wrap .i64 (x33 - 1);
                   let x35 := (x32 != x34);
                   .ask x35
                   (
                    .leaf false)
                   (
                    .need ((decide (0 ≤ 1) && decide (1 ≤ (((List.length x3) : Nat) : Int)))) (
                    .need ((decide (1 + ((List.length x3) - 1) ≤ List.length x3))) (
                    let x36 := List.take ((List.length x3) - 1) (List.drop 1 x3);
                    .need ((impl_SameBodies_need ((rightD x30)) x36)) (
                    let x37 := impl_SameBodies ((rightD x30)) x36;
                    .ask (!x37)
                    (
                     .leaf false)
                    (
                     .need ((impl_SizeOfVector_need (⟨(rightD x23).1, (rightD x23).2.1, (rightD x23).2.2⟩ : Vec))) (
                     let x38 := impl_SizeOfVector (⟨(rightD x23).1, (rightD x23).2.1, (rightD x23).2.2⟩ : Vec);
                     let x39 := flt .f32 x38 1008981770;
                     .ask x39
                     (
                      .need ((laws_r8Far_need (⟨x25.1.X, x25.1.Y, x25.1.Z⟩ : Vec) (⟨(rightD x26).1, (rightD x26).2.1, (rightD x26).2.2⟩ : Vec))) (
                      let x40 := laws_r8Far (⟨x25.1.X, x25.1.Y, x25.1.Z⟩ : Vec) (⟨(rightD x26).1, (rightD x26).2.1, (rightD x26).2.2⟩ : Vec);
                      .need ((impl_SizeOfVector_need (⟨x25.1.X, x25.1.Y, x25.1.Z⟩ : Vec))) (
                      let x41 := impl_SizeOfVector (⟨x25.1.X, x25.1.Y, x25.1.Z⟩ : Vec);
                      .need ((fconvOk .f32 x41 .f64)) (
                      let x42 := fconv .f32 x41 .f64;
                      let x43 := fadd .f64 4607182418800017408 x42;
                      let x44 := fmul .f64 4562254508917369340 x43;
                      let x45 := flt .f64 x40 x44;
                      .ask x45
                      (
                       .need ((impl_SizeOfVector_need (⟨x27.1.X, x27.1.Y, x27.1.Z⟩ : Vec))) (
                       let x46 := impl_SizeOfVector (⟨x27.1.X, x27.1.Y, x27.1.Z⟩ : Vec);
                       let x47 := feq .f32 x46 0;
                       .leaf x47))
                      (
                       .leaf false)))))
                     (
                      .leaf false))))))))))))))))))))))))))))))))))))))))))))))))))))))))))))))))))))))))
def laws_FnPulls (a0 : List Int) (a1 : List Int) : Bool := (laws_FnPulls_tree a0 a1).val
def laws_FnPulls_need (a0 : List Int) (a1 : List Int) : Bool := (laws_FnPulls_tree a0 a1).ok
def laws_FnPulls_mk (p : Bool) : Ret := ⟨.bool p, []⟩
def laws_FnPulls_c0 : Con := fun args => match args with
  | [.vslc 1 (.int .u8) a0, .vslc 2 (.int .u8) a1] => some (.need (laws_FnPulls_need a0 a1) (.leaf (laws_FnPulls_mk (laws_FnPulls a0 a1))))
  | _ => none
set_option maxRecDepth 100000 in
theorem laws_FnPulls_ok0 : FunOK Try.prog 4 laws_FnPulls_c0.fn := by
  refine con_ok (Γ := gam [(5, laws_r8Long_c), (6, laws_r8At_c), (23, spec_R8Bodies_c), (24, impl_PullsOf_c), (26, spec_R8Vector_c), (25, impl_MoveBodies_c), (27, impl_TurnBodies_c), (21, impl_ScaleVector_c), (28, impl_AddVectors_c), (29, impl_SizeOfVector_c), (30, laws_r8Far_c), (31, laws_r8Gap_c), (32, impl_PullAt_c), (33, impl_MirrorBodies_c), (34, impl_DropBody_c), (35, impl_SameBodies_c)]) (gam_cons laws_r8Long_ok (gam_cons laws_r8At_ok (gam_cons spec_R8Bodies_ok (gam_cons impl_PullsOf_ok (gam_cons spec_R8Vector_ok (gam_cons impl_MoveBodies_ok (gam_cons impl_TurnBodies_ok (gam_cons impl_ScaleVector_ok (gam_cons impl_AddVectors_ok (gam_cons impl_SizeOfVector_ok (gam_cons laws_r8Far_ok (gam_cons laws_r8Gap_ok (gam_cons impl_PullAt_ok (gam_cons impl_MirrorBodies_ok (gam_cons impl_DropBody_ok (gam_cons impl_SameBodies_ok (gam_nil))))))))))))))))) tab_ok (by kernel_rfl) Try.func4 (by kernel_rfl) (by kernel_rfl) Try.ntmps4 Try.results4 (loops := laws_FnPulls_loops) (loopsOK_list (l := [lp Try.f4 0, lp Try.f4 1]) (by kernel_rfl) ⟨laws_FnPulls_l0, ⟨laws_FnPulls_l1, trivial⟩⟩) 100000 fun args t h => ?_
  unfold laws_FnPulls_c0 at h
  split at h
  · rename_i a0 a1
    cases h
    exact ⟨rfl, agree_need (mk := laws_FnPulls_mk) (t := laws_FnPulls_tree a0 a1) (by unfold Agree; kernel_rfl)⟩
  · cases h
def laws_FnPulls_c : Con := fun args => laws_FnPulls_c0 (norms 0 [.slc (.int .u8), .slc (.int .u8)] args)
set_option maxRecDepth 100000 in
theorem laws_FnPulls_ok : FunOK Try.prog 4 laws_FnPulls_c.fn := con_norm [.slc (.int .u8), .slc (.int .u8)] laws_FnPulls_ok0

end
end Go.Proofs.Ytkmcgfjhjfiomaa
