/- THE WALK, BY A PROGRAM: typed functions, and that the code is they. -/
import Derived.Test.YtfbnehkbialkaaaGreatGLb
namespace Go.Proofs.YtfbnehkbialkaaaGreat
set_option linter.unusedVariables false
set_option linter.unusedSimpArgs false
open Go.Extern
noncomputable section


/-- loop.example/g01284/spec.l03SwingPhase -/
def spec_l03SwingPhase_tree (a0 : Nat) (a1 : Nat) : DT (Nat) :=
  .need ((spec_l01SineWide_need a1)) (
  let x0 := spec_l01SineWide a1;
  let x1 := fmul .f64 a0 x0;
  let x2 := fdiv .f64 x1 4618760256179416344;
  let x3 := fsub .f64 a1 x2;
  .leaf x3)
def spec_l03SwingPhase (a0 : Nat) (a1 : Nat) : Nat := (spec_l03SwingPhase_tree a0 a1).val
def spec_l03SwingPhase_need (a0 : Nat) (a1 : Nat) : Bool := (spec_l03SwingPhase_tree a0 a1).ok
def spec_l03SwingPhase_mk (p : Nat) : Ret := ⟨.flt .f64 p, []⟩
def spec_l03SwingPhase_c : Con := fun args => match args with
  | [.flt .f64 a0, .flt .f64 a1] => some (.need (spec_l03SwingPhase_need a0 a1) (.leaf (spec_l03SwingPhase_mk (spec_l03SwingPhase a0 a1))))
  | _ => none
set_option maxRecDepth 100000 in
theorem spec_l03SwingPhase_ok : FunOK Tryz.prog 124 spec_l03SwingPhase_c.fn := by
  refine con_ok (Γ := gam [(100, spec_l01SineWide_c)]) (gam_cons spec_l01SineWide_ok (gam_nil)) tab_ok (by kernel_rfl) Tryz.func124 (by kernel_rfl) (by kernel_rfl) Tryz.ntmps124 Tryz.results124 (loopsOK_none rfl _) 100000 fun args t h => ?_
  unfold spec_l03SwingPhase_c at h
  split at h
  · rename_i a0 a1
    cases h
    exact ⟨rfl, agree_need (mk := spec_l03SwingPhase_mk) (t := spec_l03SwingPhase_tree a0 a1) (by unfold Agree; kernel_rfl)⟩
  · cases h

/-- a loop of spec_l03Swing -/
def spec_l03Swing_loop0_step (p : Nat × Nat) (s : Nat × Nat × Int) : Round (Nat × Nat × Int) (Nat) :=
  let x0 := decide (s.2.2 < 50);
  .ask x0
  (
   let x1 := fadd .f64 s.1 s.2.1;
   let x2 := fdiv .f64 x1 4611686018427387904;
   .need ((spec_l03SwingPhase_need p.1 x2)) (
   let x3 := spec_l03SwingPhase p.1 x2;
   let x4 := fgt .f64 x3 p.2;
   .ask x4
   (
    let x5 := IntKind.wrap .i64 (s.2.2 + 1);
    .leaf (.inl (s.1, x2, x5), []))
   (
    let x5 := IntKind.wrap .i64 (s.2.2 + 1);
    .leaf (.inl (x2, s.2.1, x5), []))))
  (
   .leaf (.inr s.1, []))
def spec_l03Swing_loop0_L (p : Nat × Nat) : LoopS (Nat × Nat × Int) (Nat) := { tl := fun s => [.flt .f64 p.1, .junk, .junk, .junk, .junk, .flt .f64 p.2, .flt .f64 s.1, .flt .f64 s.2.1, .int .i64 s.2.2], hl := fun s => [], ex := fun r => .exit 0, otl := fun r => [.junk, .junk, .junk, .junk, .junk, .junk, .flt .f64 r], ohl := fun r => [] }
def spec_l03Swing_loop0_ext : St → Option ((Nat × Nat) × (Nat × Nat × Int) × List Nat) := fun S => match (S.tm 0).unK, (S.tm 5).unK, (S.tm 6).unK, (S.tm 7).unK, (S.tm 8).unK with
  | .flt .f64 q0, .flt .f64 q1, .flt .f64 q2, .flt .f64 q3, .int .i64 q4 => some ((q0, q1), (q2, q3, q4), [])
  | _, _, _, _, _ => none
def spec_l03Swing_loop0_post (p : Nat × Nat) (r : Nat) : DT (Ex × St) := .leaf (.exit 0, LSt [.junk, .junk, .junk, .junk, .junk, .junk, .flt .f64 r] [])
def spec_l03Swing_loop0 (p : Nat × Nat) (s : Nat × Nat × Int) : Nat := loopVal (spec_l03Swing_loop0_step p) s
def spec_l03Swing_loop0_ends (p : Nat × Nat) (s : Nat × Nat × Int) : Bool := loopEnds (spec_l03Swing_loop0_step p) s
def spec_l03Swing_loop0_F : LoopF := loopF spec_l03Swing_loop0_step spec_l03Swing_loop0_ext spec_l03Swing_loop0_post
set_option maxRecDepth 100000 in
theorem spec_l03Swing_loop0_hext : ∀ S p s fl, spec_l03Swing_loop0_ext S = some (p, s, fl) → Norm S fl ((spec_l03Swing_loop0_L p).tl s) ((spec_l03Swing_loop0_L p).hl s) (spec_l03Swing_loop0_L p).gl := by
  intro S p s fl h
  unfold spec_l03Swing_loop0_ext at h
  (repeat' split at h) <;> first
    | (cases h; constructor <;> simp_all [spec_l03Swing_loop0_L, keepT, keepH, rens, renH, PV.ren, Blk.ren, fOf, lget, nodup, natIn, lenEq, gtm, PV.unK])
    | cases h
set_option maxRecDepth 100000 in
theorem spec_l03Swing_loop0_hpost : ∀ p r e S', (spec_l03Swing_loop0_post p r).get = some (e, S') → e = (spec_l03Swing_loop0_L p).ex r ∧ S' = LSt ((spec_l03Swing_loop0_L p).otl r) ((spec_l03Swing_loop0_L p).ohl r) ((spec_l03Swing_loop0_L p).ogl r) := by
  intro p r e S' h
  unfold spec_l03Swing_loop0_post at h
  simp only [DT.get, Option.some.injEq, Prod.mk.injEq] at h; exact ⟨h.1.symm, h.2.symm⟩

def spec_l03Swing_loops : Nat → Option LoopF := loopTab [(5, spec_l03Swing_loop0_F)]
set_option maxRecDepth 100000 in
theorem spec_l03Swing_l0 : LoopOK Tryz.prog ⟨gam [(92, spec_l03Wrap_c), (124, spec_l03SwingPhase_c)], tab, 28, spec_l03Swing_loops⟩ (lp Tryz.f99 0) :=
  loopOK_some (F := spec_l03Swing_loop0_F) (by kernel_rfl) (loopF_ok (E := ⟨gam [(92, spec_l03Wrap_c), (124, spec_l03SwingPhase_c)], tab, 28, spec_l03Swing_loops⟩) ⟨gam_cons spec_l03Wrap_ok (gam_cons spec_l03SwingPhase_ok (gam_nil)), tab_ok, by kernel_rfl⟩ (fuel := 100000) (loopsOK_list (l := []) (by kernel_rfl) trivial) (L := spec_l03Swing_loop0_L) (fun p s => by unfold AgreeL; exact ⟨by kernel_rfl, by kernel_rfl⟩) (fun _ _ h => Ex.noConfusion h) spec_l03Swing_loop0_hext spec_l03Swing_loop0_hpost)
/-- loop.example/g01284/spec.l03Swing -/
def spec_l03Swing_tree (a0 : Nat) (a1 : Nat) : DT (Nat) :=
  let x0 := spec_l03Wrap a1;
  .need ((spec_l03Swing_loop0_ends (a0, x0) (0, 4607182418800017408, 0))) (
  let x1 := spec_l03Swing_loop0 (a0, x0) (0, 4607182418800017408, 0);
  .leaf x1)
def spec_l03Swing (a0 : Nat) (a1 : Nat) : Nat := (spec_l03Swing_tree a0 a1).val
def spec_l03Swing_need (a0 : Nat) (a1 : Nat) : Bool := (spec_l03Swing_tree a0 a1).ok
def spec_l03Swing_mk (p : Nat) : Ret := ⟨.flt .f64 p, []⟩
def spec_l03Swing_c : Con := fun args => match args with
  | [.flt .f64 a0, .flt .f64 a1] => some (.need (spec_l03Swing_need a0 a1) (.leaf (spec_l03Swing_mk (spec_l03Swing a0 a1))))
  | _ => none
set_option maxRecDepth 100000 in
theorem spec_l03Swing_ok : FunOK Tryz.prog 99 spec_l03Swing_c.fn := by
  refine con_ok (Γ := gam [(92, spec_l03Wrap_c), (124, spec_l03SwingPhase_c)]) (gam_cons spec_l03Wrap_ok (gam_cons spec_l03SwingPhase_ok (gam_nil))) tab_ok (by kernel_rfl) Tryz.func99 (by kernel_rfl) (by kernel_rfl) Tryz.ntmps99 Tryz.results99 (loops := spec_l03Swing_loops) (loopsOK_list (l := [lp Tryz.f99 0]) (by kernel_rfl) ⟨spec_l03Swing_l0, trivial⟩) 100000 fun args t h => ?_
  unfold spec_l03Swing_c at h
  split at h
  · rename_i a0 a1
    cases h
    exact ⟨rfl, agree_need (mk := spec_l03Swing_mk) (t := spec_l03Swing_tree a0 a1) (by unfold Agree; kernel_rfl)⟩
  · cases h

/-- loop.example/g01284/spec.l03Cos -/
def spec_l03Cos_tree (a0 : Nat) : DT (Nat) :=
  let x0 := fadd .f64 a0 4598175219545276416;
  .need ((spec_l01SineWide_need x0)) (
  let x1 := spec_l01SineWide x0;
  .leaf x1)
def spec_l03Cos (a0 : Nat) : Nat := (spec_l03Cos_tree a0).val
def spec_l03Cos_need (a0 : Nat) : Bool := (spec_l03Cos_tree a0).ok
def spec_l03Cos_mk (p : Nat) : Ret := ⟨.flt .f64 p, []⟩
def spec_l03Cos_c : Con := fun args => match args with
  | [.flt .f64 a0] => some (.need (spec_l03Cos_need a0) (.leaf (spec_l03Cos_mk (spec_l03Cos a0))))
  | _ => none
set_option maxRecDepth 100000 in
theorem spec_l03Cos_ok : FunOK Tryz.prog 101 spec_l03Cos_c.fn := by
  refine con_ok (Γ := gam [(100, spec_l01SineWide_c)]) (gam_cons spec_l01SineWide_ok (gam_nil)) tab_ok (by kernel_rfl) Tryz.func101 (by kernel_rfl) (by kernel_rfl) Tryz.ntmps101 Tryz.results101 (loopsOK_none rfl _) 100000 fun args t h => ?_
  unfold spec_l03Cos_c at h
  split at h
  · rename_i a0
    cases h
    exact ⟨rfl, agree_need (mk := spec_l03Cos_mk) (t := spec_l03Cos_tree a0) (by unfold Agree; kernel_rfl)⟩
  · cases h

/-- loop.example/g01284/spec.l01ExpWide -/
def spec_l01ExpWide_tree (a0 : Nat) : DT (Nat) :=
  let x0 := fne .f64 a0 a0;
  .ask x0
  (
   .leaf a0)
  (
   let x1 := fgt .f64 a0 4641240890982006784;
   .ask x1
   (
    let x2 := math_Inf 1;
    .leaf x2)
   (
    let x2 := flt .f64 a0 13864612927836782592;
    .ask x2
    (
     .leaf 0)
    (
     let x3 := fdiv .f64 a0 4643211215818981376;
     .skip (
     let x4 := fmul .f64 x3 4607182418800017408;
     let x5 := fofInt .f64 12;
     let x6 := fdiv .f64 x4 x5;
     let x7 := fadd .f64 4607182418800017408 x6;
     .skip (
     let x8 := fmul .f64 x3 x7;
     let x9 := fofInt .f64 11;
     let x10 := fdiv .f64 x8 x9;
     let x11 := fadd .f64 4607182418800017408 x10;
     .skip (
     let x12 := fmul .f64 x3 x11;
     let x13 := fofInt .f64 10;
     let x14 := fdiv .f64 x12 x13;
     let x15 := fadd .f64 4607182418800017408 x14;
     .skip (
     let x16 := fmul .f64 x3 x15;
     let x17 := fofInt .f64 9;
     let x18 := fdiv .f64 x16 x17;
     let x19 := fadd .f64 4607182418800017408 x18;
     .skip (
     let x20 := fmul .f64 x3 x19;
     let x21 := fofInt .f64 8;
     let x22 := fdiv .f64 x20 x21;
     let x23 := fadd .f64 4607182418800017408 x22;
     .skip (
     let x24 := fmul .f64 x3 x23;
     let x25 := fofInt .f64 7;
     let x26 := fdiv .f64 x24 x25;
     let x27 := fadd .f64 4607182418800017408 x26;
     .skip (
     let x28 := fmul .f64 x3 x27;
     let x29 := fofInt .f64 6;
     let x30 := fdiv .f64 x28 x29;
     let x31 := fadd .f64 4607182418800017408 x30;
     .skip (
     let x32 := fmul .f64 x3 x31;
     let x33 := fofInt .f64 5;
     let x34 := fdiv .f64 x32 x33;
     let x35 := fadd .f64 4607182418800017408 x34;
     .skip (
     let x36 := fmul .f64 x3 x35;
     let x37 := fofInt .f64 4;
     let x38 := fdiv .f64 x36 x37;
     let x39 := fadd .f64 4607182418800017408 x38;
     .skip (
     let x40 := fmul .f64 x3 x39;
     let x41 := fofInt .f64 3;
     let x42 := fdiv .f64 x40 x41;
     let x43 := fadd .f64 4607182418800017408 x42;
     .skip (
     let x44 := fmul .f64 x3 x43;
     let x45 := fofInt .f64 2;
     let x46 := fdiv .f64 x44 x45;
     let x47 := fadd .f64 4607182418800017408 x46;
     .skip (
     let x48 := fmul .f64 x3 x47;
     let x49 := fofInt .f64 1;
     let x50 := fdiv .f64 x48 x49;
     let x51 := fadd .f64 4607182418800017408 x50;
     .skip (
     .skip (
     let x52 := fmul .f64 x51 x51;
     .skip (
     let x53 := fmul .f64 x52 x52;
     .skip (
     let x54 := fmul .f64 x53 x53;
     .skip (
     let x55 := fmul .f64 x54 x54;
     .skip (
     let x56 := fmul .f64 x55 x55;
     .skip (
     let x57 := fmul .f64 x56 x56;
     .skip (
     let x58 := fmul .f64 x57 x57;
     .skip (
     let x59 := fmul .f64 x58 x58;
     .skip (
     .leaf x59)))))))))))))))))))))))))
def spec_l01ExpWide (a0 : Nat) : Nat := (spec_l01ExpWide_tree a0).val
def spec_l01ExpWide_mk (p : Nat) : Ret := ⟨.flt .f64 p, []⟩
def spec_l01ExpWide_c : Con := fun args => match args with
  | [.flt .f64 a0] => some (.leaf (spec_l01ExpWide_mk (spec_l01ExpWide a0)))
  | _ => none
set_option maxRecDepth 100000 in
theorem spec_l01ExpWide_ok : FunOK Tryz.prog 126 spec_l01ExpWide_c.fn := by
  refine con_ok (Γ := gam [(132, math_Inf_c)]) (gam_cons math_Inf_ok (gam_nil)) tab_ok (by kernel_rfl) Tryz.func126 (by kernel_rfl) (by kernel_rfl) Tryz.ntmps126 Tryz.results126 (loopsOK_none rfl _) 100000 fun args t h => ?_
  unfold spec_l01ExpWide_c at h
  split at h
  · rename_i a0
    cases h
    exact ⟨rfl, agree_tot (mk := spec_l01ExpWide_mk) (t := spec_l01ExpWide_tree a0) (by unfold Agree; kernel_rfl) (by kernel_rfl)⟩
  · cases h

/-- loop.example/g01284/spec.l03Sinh -/
def spec_l03Sinh_tree (a0 : Nat) : DT (Nat) :=
  let x0 := spec_l01ExpWide a0;
  let x1 := fneg .f64 a0;
  let x2 := spec_l01ExpWide x1;
  let x3 := fsub .f64 x0 x2;
  let x4 := fmul .f64 4602678819172646912 x3;
  .leaf x4
def spec_l03Sinh (a0 : Nat) : Nat := (spec_l03Sinh_tree a0).val
def spec_l03Sinh_mk (p : Nat) : Ret := ⟨.flt .f64 p, []⟩
def spec_l03Sinh_c : Con := fun args => match args with
  | [.flt .f64 a0] => some (.leaf (spec_l03Sinh_mk (spec_l03Sinh a0)))
  | _ => none
set_option maxRecDepth 100000 in
theorem spec_l03Sinh_ok : FunOK Tryz.prog 103 spec_l03Sinh_c.fn := by
  refine con_ok (Γ := gam [(126, spec_l01ExpWide_c)]) (gam_cons spec_l01ExpWide_ok (gam_nil)) tab_ok (by kernel_rfl) Tryz.func103 (by kernel_rfl) (by kernel_rfl) Tryz.ntmps103 Tryz.results103 (loopsOK_none rfl _) 100000 fun args t h => ?_
  unfold spec_l03Sinh_c at h
  split at h
  · rename_i a0
    cases h
    exact ⟨rfl, agree_tot (mk := spec_l03Sinh_mk) (t := spec_l03Sinh_tree a0) (by unfold Agree; kernel_rfl) (by kernel_rfl)⟩
  · cases h

/-- loop.example/g01284/spec.l03LeanSize -/
def spec_l03LeanSize_tree (a0 : Nat) (a1 : Nat) : DT (Nat) :=
  let x0 := spec_l03Sinh a1;
  let x1 := fmul .f64 a0 x0;
  let x2 := fsub .f64 x1 a1;
  .leaf x2
def spec_l03LeanSize (a0 : Nat) (a1 : Nat) : Nat := (spec_l03LeanSize_tree a0 a1).val
def spec_l03LeanSize_mk (p : Nat) : Ret := ⟨.flt .f64 p, []⟩
def spec_l03LeanSize_c : Con := fun args => match args with
  | [.flt .f64 a0, .flt .f64 a1] => some (.leaf (spec_l03LeanSize_mk (spec_l03LeanSize a0 a1)))
  | _ => none
set_option maxRecDepth 100000 in
theorem spec_l03LeanSize_ok : FunOK Tryz.prog 125 spec_l03LeanSize_c.fn := by
  refine con_ok (Γ := gam [(103, spec_l03Sinh_c)]) (gam_cons spec_l03Sinh_ok (gam_nil)) tab_ok (by kernel_rfl) Tryz.func125 (by kernel_rfl) (by kernel_rfl) Tryz.ntmps125 Tryz.results125 (loopsOK_none rfl _) 100000 fun args t h => ?_
  unfold spec_l03LeanSize_c at h
  split at h
  · rename_i a0 a1
    cases h
    exact ⟨rfl, agree_tot (mk := spec_l03LeanSize_mk) (t := spec_l03LeanSize_tree a0 a1) (by unfold Agree; kernel_rfl) (by kernel_rfl)⟩
  · cases h

/-- a loop of spec_l03Lean -/
def spec_l03Lean_loop0_step (p : Nat × Nat) (s : Nat × Nat × Int) : Round (Nat × Nat × Int) (Nat) :=
  let x0 := decide (s.2.2 < 60);
  .ask x0
  (
   let x1 := fadd .f64 s.1 s.2.1;
   let x2 := fdiv .f64 x1 4611686018427387904;
   let x3 := spec_l03LeanSize p.1 x2;
   let x4 := fgt .f64 x3 p.2;
   .ask x4
   (
    let x5 := IntKind.wrap .i64 (s.2.2 + 1);
    .leaf (.inl (s.1, x2, x5), []))
   (
    let x5 := IntKind.wrap .i64 (s.2.2 + 1);
    .leaf (.inl (x2, s.2.1, x5), [])))
  (
   .leaf (.inr s.1, []))
def spec_l03Lean_loop0_L (p : Nat × Nat) : LoopS (Nat × Nat × Int) (Nat) := { tl := fun s => [.flt .f64 p.1, .junk, .junk, .junk, .junk, .flt .f64 p.2, .flt .f64 s.1, .flt .f64 s.2.1, .int .i64 s.2.2], hl := fun s => [], ex := fun r => .exit 0, otl := fun r => [.junk, .junk, .junk, .junk, .junk, .junk, .flt .f64 r], ohl := fun r => [] }
def spec_l03Lean_loop0_ext : St → Option ((Nat × Nat) × (Nat × Nat × Int) × List Nat) := fun S => match (S.tm 0).unK, (S.tm 5).unK, (S.tm 6).unK, (S.tm 7).unK, (S.tm 8).unK with
  | .flt .f64 q0, .flt .f64 q1, .flt .f64 q2, .flt .f64 q3, .int .i64 q4 => some ((q0, q1), (q2, q3, q4), [])
  | _, _, _, _, _ => none
def spec_l03Lean_loop0_post (p : Nat × Nat) (r : Nat) : DT (Ex × St) := .leaf (.exit 0, LSt [.junk, .junk, .junk, .junk, .junk, .junk, .flt .f64 r] [])
def spec_l03Lean_loop0 (p : Nat × Nat) (s : Nat × Nat × Int) : Nat := loopVal (spec_l03Lean_loop0_step p) s
def spec_l03Lean_loop0_ends (p : Nat × Nat) (s : Nat × Nat × Int) : Bool := loopEnds (spec_l03Lean_loop0_step p) s
def spec_l03Lean_loop0_F : LoopF := loopF spec_l03Lean_loop0_step spec_l03Lean_loop0_ext spec_l03Lean_loop0_post
set_option maxRecDepth 100000 in
theorem spec_l03Lean_loop0_hext : ∀ S p s fl, spec_l03Lean_loop0_ext S = some (p, s, fl) → Norm S fl ((spec_l03Lean_loop0_L p).tl s) ((spec_l03Lean_loop0_L p).hl s) (spec_l03Lean_loop0_L p).gl := by
  intro S p s fl h
  unfold spec_l03Lean_loop0_ext at h
  (repeat' split at h) <;> first
    | (cases h; constructor <;> simp_all [spec_l03Lean_loop0_L, keepT, keepH, rens, renH, PV.ren, Blk.ren, fOf, lget, nodup, natIn, lenEq, gtm, PV.unK])
    | cases h
set_option maxRecDepth 100000 in
theorem spec_l03Lean_loop0_hpost : ∀ p r e S', (spec_l03Lean_loop0_post p r).get = some (e, S') → e = (spec_l03Lean_loop0_L p).ex r ∧ S' = LSt ((spec_l03Lean_loop0_L p).otl r) ((spec_l03Lean_loop0_L p).ohl r) ((spec_l03Lean_loop0_L p).ogl r) := by
  intro p r e S' h
  unfold spec_l03Lean_loop0_post at h
  simp only [DT.get, Option.some.injEq, Prod.mk.injEq] at h; exact ⟨h.1.symm, h.2.symm⟩

def spec_l03Lean_loops : Nat → Option LoopF := loopTab [(5, spec_l03Lean_loop0_F)]
set_option maxRecDepth 100000 in
theorem spec_l03Lean_l0 : LoopOK Tryz.prog ⟨gam [(125, spec_l03LeanSize_c)], tab, 28, spec_l03Lean_loops⟩ (lp Tryz.f102 0) :=
  loopOK_some (F := spec_l03Lean_loop0_F) (by kernel_rfl) (loopF_ok (E := ⟨gam [(125, spec_l03LeanSize_c)], tab, 28, spec_l03Lean_loops⟩) ⟨gam_cons spec_l03LeanSize_ok (gam_nil), tab_ok, by kernel_rfl⟩ (fuel := 100000) (loopsOK_list (l := []) (by kernel_rfl) trivial) (L := spec_l03Lean_loop0_L) (fun p s => by unfold AgreeL; exact ⟨by kernel_rfl, by kernel_rfl⟩) (fun _ _ h => Ex.noConfusion h) spec_l03Lean_loop0_hext spec_l03Lean_loop0_hpost)
/-- loop.example/g01284/spec.l03Lean -/
def spec_l03Lean_tree (a0 : Nat) (a1 : Nat) : DT (Nat) :=
  let x0 := fmul .f64 4618760256179416344 a1;
  .need ((spec_l03Lean_loop0_ends (a0, x0) (13845191154443747328, 4621819117588971520, 0))) (
  let x1 := spec_l03Lean_loop0 (a0, x0) (13845191154443747328, 4621819117588971520, 0);
  .leaf x1)
def spec_l03Lean (a0 : Nat) (a1 : Nat) : Nat := (spec_l03Lean_tree a0 a1).val
def spec_l03Lean_need (a0 : Nat) (a1 : Nat) : Bool := (spec_l03Lean_tree a0 a1).ok
def spec_l03Lean_mk (p : Nat) : Ret := ⟨.flt .f64 p, []⟩
def spec_l03Lean_c : Con := fun args => match args with
  | [.flt .f64 a0, .flt .f64 a1] => some (.need (spec_l03Lean_need a0 a1) (.leaf (spec_l03Lean_mk (spec_l03Lean a0 a1))))
  | _ => none
set_option maxRecDepth 100000 in
theorem spec_l03Lean_ok : FunOK Tryz.prog 102 spec_l03Lean_c.fn := by
  refine con_ok (Γ := gam [(125, spec_l03LeanSize_c)]) (gam_cons spec_l03LeanSize_ok (gam_nil)) tab_ok (by kernel_rfl) Tryz.func102 (by kernel_rfl) (by kernel_rfl) Tryz.ntmps102 Tryz.results102 (loops := spec_l03Lean_loops) (loopsOK_list (l := [lp Tryz.f102 0]) (by kernel_rfl) ⟨spec_l03Lean_l0, trivial⟩) 100000 fun args t h => ?_
  unfold spec_l03Lean_c at h
  split at h
  · rename_i a0 a1
    cases h
    exact ⟨rfl, agree_need (mk := spec_l03Lean_mk) (t := spec_l03Lean_tree a0 a1) (by unfold Agree; kernel_rfl)⟩
  · cases h

/-- loop.example/g01284/spec.l03Cosh -/
def spec_l03Cosh_tree (a0 : Nat) : DT (Nat) :=
  let x0 := spec_l01ExpWide a0;
  let x1 := fneg .f64 a0;
  let x2 := spec_l01ExpWide x1;
  let x3 := fadd .f64 x0 x2;
  let x4 := fmul .f64 4602678819172646912 x3;
  .leaf x4
def spec_l03Cosh (a0 : Nat) : Nat := (spec_l03Cosh_tree a0).val
def spec_l03Cosh_mk (p : Nat) : Ret := ⟨.flt .f64 p, []⟩
def spec_l03Cosh_c : Con := fun args => match args with
  | [.flt .f64 a0] => some (.leaf (spec_l03Cosh_mk (spec_l03Cosh a0)))
  | _ => none
set_option maxRecDepth 100000 in
theorem spec_l03Cosh_ok : FunOK Tryz.prog 104 spec_l03Cosh_c.fn := by
  refine con_ok (Γ := gam [(126, spec_l01ExpWide_c)]) (gam_cons spec_l01ExpWide_ok (gam_nil)) tab_ok (by kernel_rfl) Tryz.func104 (by kernel_rfl) (by kernel_rfl) Tryz.ntmps104 Tryz.results104 (loopsOK_none rfl _) 100000 fun args t h => ?_
  unfold spec_l03Cosh_c at h
  split at h
  · rename_i a0
    cases h
    exact ⟨rfl, agree_tot (mk := spec_l03Cosh_mk) (t := spec_l03Cosh_tree a0) (by unfold Agree; kernel_rfl) (by kernel_rfl)⟩
  · cases h

/-- loop.example/g01284/spec.l03Plane -/
def spec_l03Plane_tree (a0 : Orbit) (a1 : Nat) : DT (Nat × Nat × Nat × Nat) :=
  .need ((fconvOk .f32 a0.Round .f64)) (
  let x0 := fconv .f32 a0.Round .f64;
  .need ((fconvOk .f32 a0.Long .f64)) (
  let x1 := fconv .f32 a0.Long .f64;
  let x2 := math_Abs x1;
  .need ((spec_l03Rate_need (⟨a0.Long, a0.Round, a0.Tilt, a0.Node, a0.Peri, a0.Phase⟩ : Orbit) a1)) (
  let x3 := spec_l03Rate (⟨a0.Long, a0.Round, a0.Tilt, a0.Node, a0.Peri, a0.Phase⟩ : Orbit) a1;
  let x4 := spec_l03Ellipse (⟨a0.Long, a0.Round, a0.Tilt, a0.Node, a0.Peri, a0.Phase⟩ : Orbit);
  .ask x4
  (
   .need ((fconvOk .f32 a0.Phase .f64)) (
   let x5 := fconv .f32 a0.Phase .f64;
   .need ((spec_l03Swing_need x0 x5)) (
   let x6 := spec_l03Swing x0 x5;
   .need ((spec_l01SineWide_need x6)) (
   let x7 := spec_l01SineWide x6;
   .need ((spec_l03Cos_need x6)) (
   let x8 := spec_l03Cos x6;
   let x9 := fmul .f64 x0 x8;
   let x10 := fsub .f64 4607182418800017408 x9;
   let x11 := fmul .f64 x0 x0;
   let x12 := fsub .f64 4607182418800017408 x11;
   let x13 := math_Sqrt x12;
   let x14 := fsub .f64 x8 x0;
   let x15 := fmul .f64 x2 x14;
   let x16 := fmul .f64 x2 x13;
   let x17 := fmul .f64 x16 x7;
   let x18 := fmul .f64 x2 x3;
   let x19 := fmul .f64 x18 x7;
   let x20 := fdiv .f64 x19 x10;
   let x21 := fneg .f64 x20;
   let x22 := fmul .f64 x2 x3;
   let x23 := fmul .f64 x22 x13;
   let x24 := fmul .f64 x23 x8;
   let x25 := fdiv .f64 x24 x10;
   .leaf (x15, x17, x21, x25))))))
  (
   .need ((fconvOk .f32 a0.Phase .f64)) (
   let x5 := fconv .f32 a0.Phase .f64;
   .need ((spec_l03Lean_need x0 x5)) (
   let x6 := spec_l03Lean x0 x5;
   let x7 := spec_l03Sinh x6;
   let x8 := spec_l03Cosh x6;
   let x9 := fmul .f64 x0 x8;
   let x10 := fsub .f64 x9 4607182418800017408;
   let x11 := fmul .f64 x0 x0;
   let x12 := fsub .f64 x11 4607182418800017408;
   let x13 := math_Sqrt x12;
   let x14 := fsub .f64 x0 x8;
   let x15 := fmul .f64 x2 x14;
   let x16 := fmul .f64 x2 x13;
   let x17 := fmul .f64 x16 x7;
   let x18 := fmul .f64 x2 x3;
   let x19 := fmul .f64 x18 x7;
   let x20 := fdiv .f64 x19 x10;
   let x21 := fneg .f64 x20;
   let x22 := fmul .f64 x2 x3;
   let x23 := fmul .f64 x22 x13;
   let x24 := fmul .f64 x23 x8;
   let x25 := fdiv .f64 x24 x10;
   .leaf (x15, x17, x21, x25)))))))
def spec_l03Plane (a0 : Orbit) (a1 : Nat) : Nat × Nat × Nat × Nat := (spec_l03Plane_tree a0 a1).val
def spec_l03Plane_need (a0 : Orbit) (a1 : Nat) : Bool := (spec_l03Plane_tree a0 a1).ok
def spec_l03Plane_mk (p : Nat × Nat × Nat × Nat) : Ret := ⟨.agg [.flt .f64 p.1, .flt .f64 p.2.1, .flt .f64 p.2.2.1, .flt .f64 p.2.2.2], []⟩
def spec_l03Plane_c0 : Con := fun args => match args with
  | [.vcell [.flt .f32 a0_0, .flt .f32 a0_1, .flt .f32 a0_2, .flt .f32 a0_3, .flt .f32 a0_4, .flt .f32 a0_5] 0, .flt .f32 a1] => some (.need (spec_l03Plane_need (⟨a0_0, a0_1, a0_2, a0_3, a0_4, a0_5⟩ : Orbit) a1) (.leaf (spec_l03Plane_mk (spec_l03Plane (⟨a0_0, a0_1, a0_2, a0_3, a0_4, a0_5⟩ : Orbit) a1))))
  | _ => none
set_option maxRecDepth 100000 in
theorem spec_l03Plane_ok0 : FunOK Tryz.prog 68 spec_l03Plane_c0.fn := by
  refine con_ok (Γ := gam [(91, math_Abs_c), (52, spec_l03Rate_c), (53, spec_l03Ellipse_c), (99, spec_l03Swing_c), (100, spec_l01SineWide_c), (101, spec_l03Cos_c), (66, math_Sqrt_c), (102, spec_l03Lean_c), (103, spec_l03Sinh_c), (104, spec_l03Cosh_c)]) (gam_cons math_Abs_ok (gam_cons spec_l03Rate_ok (gam_cons spec_l03Ellipse_ok (gam_cons spec_l03Swing_ok (gam_cons spec_l01SineWide_ok (gam_cons spec_l03Cos_ok (gam_cons math_Sqrt_ok (gam_cons spec_l03Lean_ok (gam_cons spec_l03Sinh_ok (gam_cons spec_l03Cosh_ok (gam_nil))))))))))) tab_ok (by kernel_rfl) Tryz.func68 (by kernel_rfl) (by kernel_rfl) Tryz.ntmps68 Tryz.results68 (loopsOK_none rfl _) 100000 fun args t h => ?_
  unfold spec_l03Plane_c0 at h
  split at h
  · rename_i a0_0 a0_1 a0_2 a0_3 a0_4 a0_5 a1
    cases h
    exact ⟨rfl, agree_need (mk := spec_l03Plane_mk) (t := spec_l03Plane_tree (⟨a0_0, a0_1, a0_2, a0_3, a0_4, a0_5⟩ : Orbit) a1) (by unfold Agree; kernel_rfl)⟩
  · cases h
def spec_l03Plane_c : Con := fun args => spec_l03Plane_c0 (norms 0 [.ptr 6, .none] args)
set_option maxRecDepth 100000 in
theorem spec_l03Plane_ok : FunOK Tryz.prog 68 spec_l03Plane_c.fn := con_norm [.ptr 6, .none] spec_l03Plane_ok0

/-- loop.example/g01284/spec.l03Turned -/
def spec_l03Turned_tree (a0 : Orbit) (a1 : Nat) (a2 : Nat) : DT (Nat × Nat × Nat) :=
  .need ((fconvOk .f32 a0.Peri .f64)) (
  let x0 := fconv .f32 a0.Peri .f64;
  .need ((spec_l03Cos_need x0)) (
  let x1 := spec_l03Cos x0;
  .need ((fconvOk .f32 a0.Peri .f64)) (
  let x2 := fconv .f32 a0.Peri .f64;
  .need ((spec_l01SineWide_need x2)) (
  let x3 := spec_l01SineWide x2;
  let x4 := fmul .f64 a1 x1;
  let x5 := fmul .f64 a2 x3;
  let x6 := fsub .f64 x4 x5;
  let x7 := fmul .f64 a1 x3;
  let x8 := fmul .f64 a2 x1;
  let x9 := fadd .f64 x7 x8;
  .need ((fconvOk .f32 a0.Tilt .f64)) (
  let x10 := fconv .f32 a0.Tilt .f64;
  .need ((spec_l03Cos_need x10)) (
  let x11 := spec_l03Cos x10;
  let x12 := fmul .f64 x9 x11;
  .need ((fconvOk .f32 a0.Tilt .f64)) (
  let x13 := fconv .f32 a0.Tilt .f64;
  .need ((spec_l01SineWide_need x13)) (
  let x14 := spec_l01SineWide x13;
  let x15 := fmul .f64 x9 x14;
  .need ((fconvOk .f32 a0.Node .f64)) (
  let x16 := fconv .f32 a0.Node .f64;
  .need ((spec_l03Cos_need x16)) (
  let x17 := spec_l03Cos x16;
  .need ((fconvOk .f32 a0.Node .f64)) (
  let x18 := fconv .f32 a0.Node .f64;
  .need ((spec_l01SineWide_need x18)) (
  let x19 := spec_l01SineWide x18;
  let x20 := fmul .f64 x6 x17;
  let x21 := fmul .f64 x12 x19;
  let x22 := fsub .f64 x20 x21;
  let x23 := fmul .f64 x6 x19;
  let x24 := fmul .f64 x12 x17;
  let x25 := fadd .f64 x23 x24;
  .leaf (x22, x25, x15)))))))))))))
def spec_l03Turned (a0 : Orbit) (a1 : Nat) (a2 : Nat) : Nat × Nat × Nat := (spec_l03Turned_tree a0 a1 a2).val
def spec_l03Turned_need (a0 : Orbit) (a1 : Nat) (a2 : Nat) : Bool := (spec_l03Turned_tree a0 a1 a2).ok
def spec_l03Turned_mk (p : Nat × Nat × Nat) : Ret := ⟨.agg [.flt .f64 p.1, .flt .f64 p.2.1, .flt .f64 p.2.2], []⟩
def spec_l03Turned_c0 : Con := fun args => match args with
  | [.vcell [.flt .f32 a0_0, .flt .f32 a0_1, .flt .f32 a0_2, .flt .f32 a0_3, .flt .f32 a0_4, .flt .f32 a0_5] 0, .flt .f64 a1, .flt .f64 a2] => some (.need (spec_l03Turned_need (⟨a0_0, a0_1, a0_2, a0_3, a0_4, a0_5⟩ : Orbit) a1 a2) (.leaf (spec_l03Turned_mk (spec_l03Turned (⟨a0_0, a0_1, a0_2, a0_3, a0_4, a0_5⟩ : Orbit) a1 a2))))
  | _ => none
set_option maxRecDepth 100000 in
theorem spec_l03Turned_ok0 : FunOK Tryz.prog 70 spec_l03Turned_c0.fn := by
  refine con_ok (Γ := gam [(101, spec_l03Cos_c), (100, spec_l01SineWide_c)]) (gam_cons spec_l03Cos_ok (gam_cons spec_l01SineWide_ok (gam_nil))) tab_ok (by kernel_rfl) Tryz.func70 (by kernel_rfl) (by kernel_rfl) Tryz.ntmps70 Tryz.results70 (loopsOK_none rfl _) 100000 fun args t h => ?_
  unfold spec_l03Turned_c0 at h
  split at h
  · rename_i a0_0 a0_1 a0_2 a0_3 a0_4 a0_5 a1 a2
    cases h
    exact ⟨rfl, agree_need (mk := spec_l03Turned_mk) (t := spec_l03Turned_tree (⟨a0_0, a0_1, a0_2, a0_3, a0_4, a0_5⟩ : Orbit) a1 a2) (by unfold Agree; kernel_rfl)⟩
  · cases h
def spec_l03Turned_c : Con := fun args => spec_l03Turned_c0 (norms 0 [.ptr 6, .none, .none] args)
set_option maxRecDepth 100000 in
theorem spec_l03Turned_ok : FunOK Tryz.prog 70 spec_l03Turned_c.fn := con_norm [.ptr 6, .none, .none] spec_l03Turned_ok0

/-- loop.example/g01284/spec.l03Short -/
def spec_l03Short_tree (a0_0 : Nat) (a0_1 : Nat) (a0_2 : Nat) : DT (Vec) :=
  .skip (
  .need ((spec_l01Narrow_need a0_0)) (
  let x0 := spec_l01Narrow a0_0;
  .skip (
  .need ((spec_l01Narrow_need a0_1)) (
  let x1 := spec_l01Narrow a0_1;
  .skip (
  .need ((spec_l01Narrow_need a0_2)) (
  let x2 := spec_l01Narrow a0_2;
  .leaf ((⟨x0, x1, x2⟩ : Vec))))))))
def spec_l03Short (a0_0 : Nat) (a0_1 : Nat) (a0_2 : Nat) : Vec := (spec_l03Short_tree a0_0 a0_1 a0_2).val
def spec_l03Short_need (a0_0 : Nat) (a0_1 : Nat) (a0_2 : Nat) : Bool := (spec_l03Short_tree a0_0 a0_1 a0_2).ok
def spec_l03Short_mk (p : Vec) : Ret := ⟨.agg [.flt .f32 p.X, .flt .f32 p.Y, .flt .f32 p.Z], []⟩
def spec_l03Short_c : Con := fun args => match args with
  | [.agg [.flt .f64 a0_0, .flt .f64 a0_1, .flt .f64 a0_2]] => some (.need (spec_l03Short_need a0_0 a0_1 a0_2) (.leaf (spec_l03Short_mk (spec_l03Short a0_0 a0_1 a0_2))))
  | _ => none
set_option maxRecDepth 100000 in
theorem spec_l03Short_ok : FunOK Tryz.prog 69 spec_l03Short_c.fn := by
  refine con_ok (Γ := gam [(55, spec_l01Narrow_c)]) (gam_cons spec_l01Narrow_ok (gam_nil)) tab_ok (by kernel_rfl) Tryz.func69 (by kernel_rfl) (by kernel_rfl) Tryz.ntmps69 Tryz.results69 (loopsOK_none rfl _) 100000 fun args t h => ?_
  unfold spec_l03Short_c at h
  split at h
  · rename_i a0_0 a0_1 a0_2
    cases h
    exact ⟨rfl, agree_need (mk := spec_l03Short_mk) (t := spec_l03Short_tree a0_0 a0_1 a0_2) (by unfold Agree; kernel_rfl)⟩
  · cases h

/-- loop.example/g01284/spec.l01VFinite -/
def spec_l01VFinite_tree (a0 : Vec) : DT (Bool) :=
  let x0 := spec_l01Finite a0.X;
  .ask x0
  (
   let x1 := spec_l01Finite a0.Y;
   .ask x1
   (
    let x2 := spec_l01Finite a0.Z;
    .leaf x2)
   (
    .leaf false))
  (
   .leaf false)
def spec_l01VFinite (a0 : Vec) : Bool := (spec_l01VFinite_tree a0).val
def spec_l01VFinite_mk (p : Bool) : Ret := ⟨.bool p, []⟩
def spec_l01VFinite_c : Con := fun args => match args with
  | [.agg [.flt .f32 a0_0, .flt .f32 a0_1, .flt .f32 a0_2]] => some (.leaf (spec_l01VFinite_mk (spec_l01VFinite (⟨a0_0, a0_1, a0_2⟩ : Vec))))
  | _ => none
set_option maxRecDepth 100000 in
theorem spec_l01VFinite_ok : FunOK Tryz.prog 71 spec_l01VFinite_c.fn := by
  refine con_ok (Γ := gam [(26, spec_l01Finite_c)]) (gam_cons spec_l01Finite_ok (gam_nil)) tab_ok (by kernel_rfl) Tryz.func71 (by kernel_rfl) (by kernel_rfl) Tryz.ntmps71 Tryz.results71 (loopsOK_none rfl _) 100000 fun args t h => ?_
  unfold spec_l01VFinite_c at h
  split at h
  · rename_i a0_0 a0_1 a0_2
    cases h
    exact ⟨rfl, agree_tot (mk := spec_l01VFinite_mk) (t := spec_l01VFinite_tree (⟨a0_0, a0_1, a0_2⟩ : Vec)) (by unfold Agree; kernel_rfl) (by kernel_rfl)⟩
  · cases h

/-- loop.example/g01284/spec.l03State -/
def spec_l03State_tree (a0 : Orbit) (a1 : Nat) : DT (Vec × Vec × Bool) :=
  .need ((spec_l03Plane_need (⟨a0.Long, a0.Round, a0.Tilt, a0.Node, a0.Peri, a0.Phase⟩ : Orbit) a1)) (
  let x0 := spec_l03Plane (⟨a0.Long, a0.Round, a0.Tilt, a0.Node, a0.Peri, a0.Phase⟩ : Orbit) a1;
  .skip (
  .skip (
  .need ((spec_l03Turned_need (⟨a0.Long, a0.Round, a0.Tilt, a0.Node, a0.Peri, a0.Phase⟩ : Orbit) x0.1 x0.2.1)) (
  let x1 := spec_l03Turned (⟨a0.Long, a0.Round, a0.Tilt, a0.Node, a0.Peri, a0.Phase⟩ : Orbit) x0.1 x0.2.1;
  .need ((spec_l03Short_need x1.1 x1.2.1 x1.2.2)) (
  let x2 := spec_l03Short x1.1 x1.2.1 x1.2.2;
  .skip (
  .skip (
  .need ((spec_l03Turned_need (⟨a0.Long, a0.Round, a0.Tilt, a0.Node, a0.Peri, a0.Phase⟩ : Orbit) x0.2.2.1 x0.2.2.2)) (
  let x3 := spec_l03Turned (⟨a0.Long, a0.Round, a0.Tilt, a0.Node, a0.Peri, a0.Phase⟩ : Orbit) x0.2.2.1 x0.2.2.2;
  .need ((spec_l03Short_need x3.1 x3.2.1 x3.2.2)) (
  let x4 := spec_l03Short x3.1 x3.2.1 x3.2.2;
  let x5 := spec_l01VFinite (⟨x2.X, x2.Y, x2.Z⟩ : Vec);
  .ask (!x5)
  (
   .leaf ((⟨0, 0, 0⟩ : Vec), (⟨0, 0, 0⟩ : Vec), false))
  (
   let x6 := spec_l01VFinite (⟨x4.X, x4.Y, x4.Z⟩ : Vec);
   .ask (!x6)
   (
    .leaf ((⟨0, 0, 0⟩ : Vec), (⟨0, 0, 0⟩ : Vec), false))
   (
    .leaf ((⟨x2.X, x2.Y, x2.Z⟩ : Vec), (⟨x4.X, x4.Y, x4.Z⟩ : Vec), true))))))))))))
def spec_l03State (a0 : Orbit) (a1 : Nat) : Vec × Vec × Bool := (spec_l03State_tree a0 a1).val
def spec_l03State_need (a0 : Orbit) (a1 : Nat) : Bool := (spec_l03State_tree a0 a1).ok
def spec_l03State_mk (p : Vec × Vec × Bool) : Ret := ⟨.tup [.agg [.flt .f32 p.1.X, .flt .f32 p.1.Y, .flt .f32 p.1.Z], .agg [.flt .f32 p.2.1.X, .flt .f32 p.2.1.Y, .flt .f32 p.2.1.Z], .bool p.2.2], []⟩
def spec_l03State_c0 : Con := fun args => match args with
  | [.vcell [.flt .f32 a0_0, .flt .f32 a0_1, .flt .f32 a0_2, .flt .f32 a0_3, .flt .f32 a0_4, .flt .f32 a0_5] 0, .flt .f32 a1] => some (.need (spec_l03State_need (⟨a0_0, a0_1, a0_2, a0_3, a0_4, a0_5⟩ : Orbit) a1) (.leaf (spec_l03State_mk (spec_l03State (⟨a0_0, a0_1, a0_2, a0_3, a0_4, a0_5⟩ : Orbit) a1))))
  | _ => none
set_option maxRecDepth 100000 in
theorem spec_l03State_ok0 : FunOK Tryz.prog 33 spec_l03State_c0.fn := by
  refine con_ok (Γ := gam [(68, spec_l03Plane_c), (70, spec_l03Turned_c), (69, spec_l03Short_c), (71, spec_l01VFinite_c)]) (gam_cons spec_l03Plane_ok (gam_cons spec_l03Turned_ok (gam_cons spec_l03Short_ok (gam_cons spec_l01VFinite_ok (gam_nil))))) tab_ok (by kernel_rfl) Tryz.func33 (by kernel_rfl) (by kernel_rfl) Tryz.ntmps33 Tryz.results33 (loopsOK_none rfl _) 100000 fun args t h => ?_
  unfold spec_l03State_c0 at h
  split at h
  · rename_i a0_0 a0_1 a0_2 a0_3 a0_4 a0_5 a1
    cases h
    exact ⟨rfl, agree_need (mk := spec_l03State_mk) (t := spec_l03State_tree (⟨a0_0, a0_1, a0_2, a0_3, a0_4, a0_5⟩ : Orbit) a1) (by unfold Agree; kernel_rfl)⟩
  · cases h
def spec_l03State_c : Con := fun args => spec_l03State_c0 (norms 0 [.ptr 6, .none] args)
set_option maxRecDepth 100000 in
theorem spec_l03State_ok : FunOK Tryz.prog 33 spec_l03State_c.fn := con_norm [.ptr 6, .none] spec_l03State_ok0

/-- loop.example/g01284/spec.StateOf -/
def spec_StateOf_tree (a0 : Orbit) (a1 : Nat) : DT (Vec × Vec × Bool) :=
  let x0 := spec_l03Can (⟨a0.Long, a0.Round, a0.Tilt, a0.Node, a0.Peri, a0.Phase⟩ : Orbit) a1;
  .ask (!x0)
  (
   .leaf ((⟨0, 0, 0⟩ : Vec), (⟨0, 0, 0⟩ : Vec), false))
  (
   .need ((spec_l03State_need (⟨a0.Long, a0.Round, a0.Tilt, a0.Node, a0.Peri, a0.Phase⟩ : Orbit) a1)) (
   let x1 := spec_l03State (⟨a0.Long, a0.Round, a0.Tilt, a0.Node, a0.Peri, a0.Phase⟩ : Orbit) a1;
   .leaf ((⟨x1.1.X, x1.1.Y, x1.1.Z⟩ : Vec), (⟨x1.2.1.X, x1.2.1.Y, x1.2.1.Z⟩ : Vec), x1.2.2)))
def spec_StateOf (a0 : Orbit) (a1 : Nat) : Vec × Vec × Bool := (spec_StateOf_tree a0 a1).val
def spec_StateOf_need (a0 : Orbit) (a1 : Nat) : Bool := (spec_StateOf_tree a0 a1).ok
def spec_StateOf_mk (p : Vec × Vec × Bool) : Ret := ⟨.tup [.agg [.flt .f32 p.1.X, .flt .f32 p.1.Y, .flt .f32 p.1.Z], .agg [.flt .f32 p.2.1.X, .flt .f32 p.2.1.Y, .flt .f32 p.2.1.Z], .bool p.2.2], []⟩
def spec_StateOf_c : Con := fun args => match args with
  | [.agg [.flt .f32 a0_0, .flt .f32 a0_1, .flt .f32 a0_2, .flt .f32 a0_3, .flt .f32 a0_4, .flt .f32 a0_5], .flt .f32 a1] => some (.need (spec_StateOf_need (⟨a0_0, a0_1, a0_2, a0_3, a0_4, a0_5⟩ : Orbit) a1) (.leaf (spec_StateOf_mk (spec_StateOf (⟨a0_0, a0_1, a0_2, a0_3, a0_4, a0_5⟩ : Orbit) a1))))
  | _ => none
set_option maxRecDepth 100000 in
theorem spec_StateOf_ok : FunOK Tryz.prog 10 spec_StateOf_c.fn := by
  refine con_ok (Γ := gam [(25, spec_l03Can_c), (33, spec_l03State_c)]) (gam_cons spec_l03Can_ok (gam_cons spec_l03State_ok (gam_nil))) tab_ok (by kernel_rfl) Tryz.func10 (by kernel_rfl) (by kernel_rfl) Tryz.ntmps10 Tryz.results10 (loopsOK_none rfl _) 100000 fun args t h => ?_
  unfold spec_StateOf_c at h
  split at h
  · rename_i a0_0 a0_1 a0_2 a0_3 a0_4 a0_5 a1
    cases h
    exact ⟨rfl, agree_need (mk := spec_StateOf_mk) (t := spec_StateOf_tree (⟨a0_0, a0_1, a0_2, a0_3, a0_4, a0_5⟩ : Orbit) a1) (by unfold Agree; kernel_rfl)⟩
  · cases h

/-- loop.example/g01284/impl.nearTurn -/
def impl_nearTurn_tree (a0 : Nat) : DT (Nat) :=
  .need ((fconvOk .f32 a0 .f64)) (
  let x0 := fconv .f32 a0 .f64;
  .need ((fconvOk .f32 a0 .f64)) (
  let x1 := fconv .f32 a0 .f64;
  let x2 := fadd .f64 x1 4602678819172646912;
  let x3 := math_Floor x2;
  let x4 := fsub .f64 x0 x3;
  .need ((fconvOk .f64 x4 .f32)) (
  let x5 := fconv .f64 x4 .f32;
  .leaf x5)))
def impl_nearTurn (a0 : Nat) : Nat := (impl_nearTurn_tree a0).val
def impl_nearTurn_need (a0 : Nat) : Bool := (impl_nearTurn_tree a0).ok
def impl_nearTurn_mk (p : Nat) : Ret := ⟨.flt .f32 p, []⟩
def impl_nearTurn_c : Con := fun args => match args with
  | [.flt .f32 a0] => some (.need (impl_nearTurn_need a0) (.leaf (impl_nearTurn_mk (impl_nearTurn a0))))
  | _ => none
set_option maxRecDepth 100000 in
theorem impl_nearTurn_ok : FunOK Tryz.prog 72 impl_nearTurn_c.fn := by
  refine con_ok (Γ := gam [(93, math_Floor_c)]) (gam_cons math_Floor_ok (gam_nil)) tab_ok (by kernel_rfl) Tryz.func72 (by kernel_rfl) (by kernel_rfl) Tryz.ntmps72 Tryz.results72 (loopsOK_none rfl _) 100000 fun args t h => ?_
  unfold impl_nearTurn_c at h
  split at h
  · rename_i a0
    cases h
    exact ⟨rfl, agree_need (mk := impl_nearTurn_mk) (t := impl_nearTurn_tree a0) (by unfold Agree; kernel_rfl)⟩
  · cases h

/-- loop.example/g01284/impl.miss -/
def impl_miss_tree (a0 : Orbit) (a1 : Nat) (a2 : Look) : DT (Nat × Nat × Nat × Bool) :=
  .need ((impl_LookAt_need (⟨a0.Long, a0.Round, a0.Tilt, a0.Node, a0.Peri, a0.Phase⟩ : Orbit) a1 a2.Time)) (
  let x0 := impl_LookAt (⟨a0.Long, a0.Round, a0.Tilt, a0.Node, a0.Peri, a0.Phase⟩ : Orbit) a1 a2.Time;
  let x1 := fsub .f32 a2.Right x0.1.Right;
  .need ((impl_nearTurn_need x1)) (
  let x2 := impl_nearTurn x1;
  let x3 := fsub .f32 a2.Up x0.1.Up;
  let x4 := fsub .f32 a2.Far x0.1.Far;
  .ask (!x0.2)
  (
   .leaf (0, 0, 0, false))
  (
   .need ((impl_areFinite_need ([x2, x3, x4]))) (
   let x5 := impl_areFinite ([x2, x3, x4]);
   .ask (!x5)
   (
    .leaf (0, 0, 0, false))
   (
    .leaf (x2, x3, x4, true))))))
def impl_miss (a0 : Orbit) (a1 : Nat) (a2 : Look) : Nat × Nat × Nat × Bool := (impl_miss_tree a0 a1 a2).val
def impl_miss_need (a0 : Orbit) (a1 : Nat) (a2 : Look) : Bool := (impl_miss_tree a0 a1 a2).ok
def impl_miss_mk (p : Nat × Nat × Nat × Bool) : Ret := ⟨.tup [.agg [.flt .f32 p.1, .flt .f32 p.2.1, .flt .f32 p.2.2.1], .bool p.2.2.2], []⟩
def impl_miss_c : Con := fun args => match args with
  | [.agg [.flt .f32 a0_0, .flt .f32 a0_1, .flt .f32 a0_2, .flt .f32 a0_3, .flt .f32 a0_4, .flt .f32 a0_5], .flt .f32 a1, .agg [.flt .f32 a2_0, .flt .f32 a2_1, .flt .f32 a2_2, .flt .f32 a2_3, .flt .f32 a2_4]] => some (.need (impl_miss_need (⟨a0_0, a0_1, a0_2, a0_3, a0_4, a0_5⟩ : Orbit) a1 (⟨a2_0, a2_1, a2_2, a2_3, a2_4⟩ : Look)) (.leaf (impl_miss_mk (impl_miss (⟨a0_0, a0_1, a0_2, a0_3, a0_4, a0_5⟩ : Orbit) a1 (⟨a2_0, a2_1, a2_2, a2_3, a2_4⟩ : Look)))))
  | _ => none
set_option maxRecDepth 100000 in
theorem impl_miss_ok : FunOK Tryz.prog 34 impl_miss_c.fn := by
  refine con_ok (Γ := gam [(9, impl_LookAt_c), (72, impl_nearTurn_c), (44, impl_areFinite_c)]) (gam_cons impl_LookAt_ok (gam_cons impl_nearTurn_ok (gam_cons impl_areFinite_ok (gam_nil)))) tab_ok (by kernel_rfl) Tryz.func34 (by kernel_rfl) (by kernel_rfl) Tryz.ntmps34 Tryz.results34 (loopsOK_none rfl _) 100000 fun args t h => ?_
  unfold impl_miss_c at h
  split at h
  · rename_i a0_0 a0_1 a0_2 a0_3 a0_4 a0_5 a1 a2_0 a2_1 a2_2 a2_3 a2_4
    cases h
    exact ⟨rfl, agree_need (mk := impl_miss_mk) (t := impl_miss_tree (⟨a0_0, a0_1, a0_2, a0_3, a0_4, a0_5⟩ : Orbit) a1 (⟨a2_0, a2_1, a2_2, a2_3, a2_4⟩ : Look)) (by unfold Agree; kernel_rfl)⟩
  · cases h

/-- loop.example/g01284/impl.MissOf -/
def impl_MissOf_tree (a0 : Orbit) (a1 : Nat) (a2 : Look) : DT (Nat × Nat × Nat × Bool) :=
  .need ((impl_AreLooks_need ([(⟨a2.Time, a2.Right, a2.Up, a2.Far, a2.Weight⟩ : Look)]))) (
  let x0 := impl_AreLooks ([(⟨a2.Time, a2.Right, a2.Up, a2.Far, a2.Weight⟩ : Look)]);
  .ask (!x0)
  (
   .leaf (0, 0, 0, false))
  (
   .need ((impl_miss_need (⟨a0.Long, a0.Round, a0.Tilt, a0.Node, a0.Peri, a0.Phase⟩ : Orbit) a1 (⟨a2.Time, a2.Right, a2.Up, a2.Far, a2.Weight⟩ : Look))) (
   let x1 := impl_miss (⟨a0.Long, a0.Round, a0.Tilt, a0.Node, a0.Peri, a0.Phase⟩ : Orbit) a1 (⟨a2.Time, a2.Right, a2.Up, a2.Far, a2.Weight⟩ : Look);
   .skip (
   .skip (
   .skip (
   .leaf (x1.1, x1.2.1, x1.2.2.1, x1.2.2.2)))))))
def impl_MissOf (a0 : Orbit) (a1 : Nat) (a2 : Look) : Nat × Nat × Nat × Bool := (impl_MissOf_tree a0 a1 a2).val
def impl_MissOf_need (a0 : Orbit) (a1 : Nat) (a2 : Look) : Bool := (impl_MissOf_tree a0 a1 a2).ok
def impl_MissOf_mk (p : Nat × Nat × Nat × Bool) : Ret := ⟨.tup [.flt .f32 p.1, .flt .f32 p.2.1, .flt .f32 p.2.2.1, .bool p.2.2.2], []⟩
def impl_MissOf_c : Con := fun args => match args with
  | [.agg [.flt .f32 a0_0, .flt .f32 a0_1, .flt .f32 a0_2, .flt .f32 a0_3, .flt .f32 a0_4, .flt .f32 a0_5], .flt .f32 a1, .agg [.flt .f32 a2_0, .flt .f32 a2_1, .flt .f32 a2_2, .flt .f32 a2_3, .flt .f32 a2_4]] => some (.need (impl_MissOf_need (⟨a0_0, a0_1, a0_2, a0_3, a0_4, a0_5⟩ : Orbit) a1 (⟨a2_0, a2_1, a2_2, a2_3, a2_4⟩ : Look)) (.leaf (impl_MissOf_mk (impl_MissOf (⟨a0_0, a0_1, a0_2, a0_3, a0_4, a0_5⟩ : Orbit) a1 (⟨a2_0, a2_1, a2_2, a2_3, a2_4⟩ : Look)))))
  | _ => none
set_option maxRecDepth 100000 in
theorem impl_MissOf_ok : FunOK Tryz.prog 11 impl_MissOf_c.fn := by
  refine con_ok (Γ := gam [(19, impl_AreLooks_c), (34, impl_miss_c)]) (gam_cons impl_AreLooks_ok (gam_cons impl_miss_ok (gam_nil))) tab_ok (by kernel_rfl) Tryz.func11 (by kernel_rfl) (by kernel_rfl) Tryz.ntmps11 Tryz.results11 (loopsOK_none rfl _) 100000 fun args t h => ?_
  unfold impl_MissOf_c at h
  split at h
  · rename_i a0_0 a0_1 a0_2 a0_3 a0_4 a0_5 a1 a2_0 a2_1 a2_2 a2_3 a2_4
    cases h
    exact ⟨rfl, agree_need (mk := impl_MissOf_mk) (t := impl_MissOf_tree (⟨a0_0, a0_1, a0_2, a0_3, a0_4, a0_5⟩ : Orbit) a1 (⟨a2_0, a2_1, a2_2, a2_3, a2_4⟩ : Look)) (by unfold Agree; kernel_rfl)⟩
  · cases h

/-- loop.example/g01284/spec.l01VInner -/
def spec_l01VInner_tree (a0 : Vec) (a1 : Vec) : DT (Nat) :=
  let x0 := fmul .f32 a0.X a1.X;
  let x1 := fmul .f32 a0.Y a1.Y;
  let x2 := fadd .f32 x0 x1;
  let x3 := fmul .f32 a0.Z a1.Z;
  let x4 := fadd .f32 x2 x3;
  .leaf x4
def spec_l01VInner (a0 : Vec) (a1 : Vec) : Nat := (spec_l01VInner_tree a0 a1).val
def spec_l01VInner_mk (p : Nat) : Ret := ⟨.flt .f32 p, []⟩
def spec_l01VInner_c : Con := fun args => match args with
  | [.agg [.flt .f32 a0_0, .flt .f32 a0_1, .flt .f32 a0_2], .agg [.flt .f32 a1_0, .flt .f32 a1_1, .flt .f32 a1_2]] => some (.leaf (spec_l01VInner_mk (spec_l01VInner (⟨a0_0, a0_1, a0_2⟩ : Vec) (⟨a1_0, a1_1, a1_2⟩ : Vec))))
  | _ => none
set_option maxRecDepth 100000 in
theorem spec_l01VInner_ok : FunOK Tryz.prog 75 spec_l01VInner_c.fn := by
  refine con_ok (Γ := gam []) (gam_nil) tab_ok (by kernel_rfl) Tryz.func75 (by kernel_rfl) (by kernel_rfl) Tryz.ntmps75 Tryz.results75 (loopsOK_none rfl _) 100000 fun args t h => ?_
  unfold spec_l01VInner_c at h
  split at h
  · rename_i a0_0 a0_1 a0_2 a1_0 a1_1 a1_2
    cases h
    exact ⟨rfl, agree_tot (mk := spec_l01VInner_mk) (t := spec_l01VInner_tree (⟨a0_0, a0_1, a0_2⟩ : Vec) (⟨a1_0, a1_1, a1_2⟩ : Vec)) (by unfold Agree; kernel_rfl) (by kernel_rfl)⟩
  · cases h

/-- loop.example/g01284/spec.l01Sqrt -/
def spec_l01Sqrt_tree (a0 : Nat) : DT (Nat) :=
  .need ((fconvOk .f32 a0 .f64)) (
  let x0 := fconv .f32 a0 .f64;
  let x1 := math_Sqrt x0;
  .need ((spec_l01Narrow_need x1)) (
  let x2 := spec_l01Narrow x1;
  .leaf x2))
def spec_l01Sqrt (a0 : Nat) : Nat := (spec_l01Sqrt_tree a0).val
def spec_l01Sqrt_need (a0 : Nat) : Bool := (spec_l01Sqrt_tree a0).ok
def spec_l01Sqrt_mk (p : Nat) : Ret := ⟨.flt .f32 p, []⟩
def spec_l01Sqrt_c : Con := fun args => match args with
  | [.flt .f32 a0] => some (.need (spec_l01Sqrt_need a0) (.leaf (spec_l01Sqrt_mk (spec_l01Sqrt a0))))
  | _ => none
set_option maxRecDepth 100000 in
theorem spec_l01Sqrt_ok : FunOK Tryz.prog 74 spec_l01Sqrt_c.fn := by
  refine con_ok (Γ := gam [(66, math_Sqrt_c), (55, spec_l01Narrow_c)]) (gam_cons math_Sqrt_ok (gam_cons spec_l01Narrow_ok (gam_nil))) tab_ok (by kernel_rfl) Tryz.func74 (by kernel_rfl) (by kernel_rfl) Tryz.ntmps74 Tryz.results74 (loopsOK_none rfl _) 100000 fun args t h => ?_
  unfold spec_l01Sqrt_c at h
  split at h
  · rename_i a0
    cases h
    exact ⟨rfl, agree_need (mk := spec_l01Sqrt_mk) (t := spec_l01Sqrt_tree a0) (by unfold Agree; kernel_rfl)⟩
  · cases h

/-- loop.example/g01284/spec.l01VLong -/
def spec_l01VLong_tree (a0 : Vec) : DT (Nat) :=
  let x0 := spec_l01VInner (⟨a0.X, a0.Y, a0.Z⟩ : Vec) (⟨a0.X, a0.Y, a0.Z⟩ : Vec);
  .need ((spec_l01Sqrt_need x0)) (
  let x1 := spec_l01Sqrt x0;
  .leaf x1)
def spec_l01VLong (a0 : Vec) : Nat := (spec_l01VLong_tree a0).val
def spec_l01VLong_need (a0 : Vec) : Bool := (spec_l01VLong_tree a0).ok
def spec_l01VLong_mk (p : Nat) : Ret := ⟨.flt .f32 p, []⟩
def spec_l01VLong_c : Con := fun args => match args with
  | [.agg [.flt .f32 a0_0, .flt .f32 a0_1, .flt .f32 a0_2]] => some (.need (spec_l01VLong_need (⟨a0_0, a0_1, a0_2⟩ : Vec)) (.leaf (spec_l01VLong_mk (spec_l01VLong (⟨a0_0, a0_1, a0_2⟩ : Vec)))))
  | _ => none
set_option maxRecDepth 100000 in
theorem spec_l01VLong_ok : FunOK Tryz.prog 36 spec_l01VLong_c.fn := by
  refine con_ok (Γ := gam [(75, spec_l01VInner_c), (74, spec_l01Sqrt_c)]) (gam_cons spec_l01VInner_ok (gam_cons spec_l01Sqrt_ok (gam_nil))) tab_ok (by kernel_rfl) Tryz.func36 (by kernel_rfl) (by kernel_rfl) Tryz.ntmps36 Tryz.results36 (loopsOK_none rfl _) 100000 fun args t h => ?_
  unfold spec_l01VLong_c at h
  split at h
  · rename_i a0_0 a0_1 a0_2
    cases h
    exact ⟨rfl, agree_need (mk := spec_l01VLong_mk) (t := spec_l01VLong_tree (⟨a0_0, a0_1, a0_2⟩ : Vec)) (by unfold Agree; kernel_rfl)⟩
  · cases h

/-- loop.example/g01284/spec.SizeOfVector -/
def spec_SizeOfVector_tree (a0 : Vec) : DT (Nat) :=
  .need ((spec_l01VLong_need (⟨a0.X, a0.Y, a0.Z⟩ : Vec))) (
  let x0 := spec_l01VLong (⟨a0.X, a0.Y, a0.Z⟩ : Vec);
  .leaf x0)
def spec_SizeOfVector (a0 : Vec) : Nat := (spec_SizeOfVector_tree a0).val
def spec_SizeOfVector_need (a0 : Vec) : Bool := (spec_SizeOfVector_tree a0).ok
def spec_SizeOfVector_mk (p : Nat) : Ret := ⟨.flt .f32 p, []⟩
def spec_SizeOfVector_c : Con := fun args => match args with
  | [.agg [.flt .f32 a0_0, .flt .f32 a0_1, .flt .f32 a0_2]] => some (.need (spec_SizeOfVector_need (⟨a0_0, a0_1, a0_2⟩ : Vec)) (.leaf (spec_SizeOfVector_mk (spec_SizeOfVector (⟨a0_0, a0_1, a0_2⟩ : Vec)))))
  | _ => none
set_option maxRecDepth 100000 in
theorem spec_SizeOfVector_ok : FunOK Tryz.prog 13 spec_SizeOfVector_c.fn := by
  refine con_ok (Γ := gam [(36, spec_l01VLong_c)]) (gam_cons spec_l01VLong_ok (gam_nil)) tab_ok (by kernel_rfl) Tryz.func13 (by kernel_rfl) (by kernel_rfl) Tryz.ntmps13 Tryz.results13 (loopsOK_none rfl _) 100000 fun args t h => ?_
  unfold spec_SizeOfVector_c at h
  split at h
  · rename_i a0_0 a0_1 a0_2
    cases h
    exact ⟨rfl, agree_need (mk := spec_SizeOfVector_mk) (t := spec_SizeOfVector_tree (⟨a0_0, a0_1, a0_2⟩ : Vec)) (by unfold Agree; kernel_rfl)⟩
  · cases h

/-- loop.example/g01284/spec.l01Bits -/
def spec_l01Bits_tree (a0 : Nat) : DT (Int) :=
  let x0 := fne .f32 a0 a0;
  .ask x0
  (
   .leaf 2143289344)
  (
   .need ((!isNaN .f32 a0)) (
   let x1 := IntKind.wrap .i64 ((a0 : Nat) : Int);
   .leaf x1))
def spec_l01Bits (a0 : Nat) : Int := (spec_l01Bits_tree a0).val
def spec_l01Bits_need (a0 : Nat) : Bool := (spec_l01Bits_tree a0).ok
def spec_l01Bits_mk (p : Int) : Ret := ⟨.int .i64 p, []⟩
def spec_l01Bits_c : Con := fun args => match args with
  | [.flt .f32 a0] => some (.need (spec_l01Bits_need a0) (.leaf (spec_l01Bits_mk (spec_l01Bits a0))))
  | _ => none
set_option maxRecDepth 100000 in
theorem spec_l01Bits_ok : FunOK Tryz.prog 73 spec_l01Bits_c.fn := by
  refine con_ok (Γ := gam [(105, math_Float32bits_c)]) (gam_cons math_Float32bits_ok (gam_nil)) tab_ok (by kernel_rfl) Tryz.func73 (by kernel_rfl) (by kernel_rfl) Tryz.ntmps73 Tryz.results73 (loopsOK_none rfl _) 100000 fun args t h => ?_
  unfold spec_l01Bits_c at h
  split at h
  · rename_i a0
    cases h
    exact ⟨rfl, agree_need (mk := spec_l01Bits_mk) (t := spec_l01Bits_tree a0) (by unfold Agree; kernel_rfl)⟩
  · cases h

/-- loop.example/g01284/spec.l01Same -/
def spec_l01Same_tree (a0 : Nat) (a1 : Nat) : DT (Bool) :=
  .need ((spec_l01Bits_need a0)) (
  let x0 := spec_l01Bits a0;
  .need ((spec_l01Bits_need a1)) (
  let x1 := spec_l01Bits a1;
  let x2 := (x0 == x1);
  .leaf x2))
def spec_l01Same (a0 : Nat) (a1 : Nat) : Bool := (spec_l01Same_tree a0 a1).val
def spec_l01Same_need (a0 : Nat) (a1 : Nat) : Bool := (spec_l01Same_tree a0 a1).ok
def spec_l01Same_mk (p : Bool) : Ret := ⟨.bool p, []⟩
def spec_l01Same_c : Con := fun args => match args with
  | [.flt .f32 a0, .flt .f32 a1] => some (.need (spec_l01Same_need a0 a1) (.leaf (spec_l01Same_mk (spec_l01Same a0 a1))))
  | _ => none
set_option maxRecDepth 100000 in
theorem spec_l01Same_ok : FunOK Tryz.prog 35 spec_l01Same_c.fn := by
  refine con_ok (Γ := gam [(73, spec_l01Bits_c)]) (gam_cons spec_l01Bits_ok (gam_nil)) tab_ok (by kernel_rfl) Tryz.func35 (by kernel_rfl) (by kernel_rfl) Tryz.ntmps35 Tryz.results35 (loopsOK_none rfl _) 100000 fun args t h => ?_
  unfold spec_l01Same_c at h
  split at h
  · rename_i a0 a1
    cases h
    exact ⟨rfl, agree_need (mk := spec_l01Same_mk) (t := spec_l01Same_tree a0 a1) (by unfold Agree; kernel_rfl)⟩
  · cases h

/-- loop.example/g01284/spec.SameNumber -/
def spec_SameNumber_tree (a0 : Nat) (a1 : Nat) : DT (Bool) :=
  .need ((spec_l01Same_need a0 a1)) (
  let x0 := spec_l01Same a0 a1;
  .leaf x0)
def spec_SameNumber (a0 : Nat) (a1 : Nat) : Bool := (spec_SameNumber_tree a0 a1).val
def spec_SameNumber_need (a0 : Nat) (a1 : Nat) : Bool := (spec_SameNumber_tree a0 a1).ok
def spec_SameNumber_mk (p : Bool) : Ret := ⟨.bool p, []⟩
def spec_SameNumber_c : Con := fun args => match args with
  | [.flt .f32 a0, .flt .f32 a1] => some (.need (spec_SameNumber_need a0 a1) (.leaf (spec_SameNumber_mk (spec_SameNumber a0 a1))))
  | _ => none
set_option maxRecDepth 100000 in
theorem spec_SameNumber_ok : FunOK Tryz.prog 12 spec_SameNumber_c.fn := by
  refine con_ok (Γ := gam [(35, spec_l01Same_c)]) (gam_cons spec_l01Same_ok (gam_nil)) tab_ok (by kernel_rfl) Tryz.func12 (by kernel_rfl) (by kernel_rfl) Tryz.ntmps12 Tryz.results12 (loopsOK_none rfl _) 100000 fun args t h => ?_
  unfold spec_SameNumber_c at h
  split at h
  · rename_i a0 a1
    cases h
    exact ⟨rfl, agree_need (mk := spec_SameNumber_mk) (t := spec_SameNumber_tree a0 a1) (by unfold Agree; kernel_rfl)⟩
  · cases h

/-- loop.example/g01284/spec.l02Least -/
def spec_l02Least_tree (a0 : Nat) : DT (Bool) :=
  let x0 := spec_l01Finite a0;
  .ask x0
  (
   let x1 := fge .f32 a0 0;
   .leaf x1)
  (
   .leaf false)
def spec_l02Least (a0 : Nat) : Bool := (spec_l02Least_tree a0).val
def spec_l02Least_mk (p : Bool) : Ret := ⟨.bool p, []⟩
def spec_l02Least_c : Con := fun args => match args with
  | [.flt .f32 a0] => some (.leaf (spec_l02Least_mk (spec_l02Least a0)))
  | _ => none
set_option maxRecDepth 100000 in
theorem spec_l02Least_ok : FunOK Tryz.prog 76 spec_l02Least_c.fn := by
  refine con_ok (Γ := gam [(26, spec_l01Finite_c)]) (gam_cons spec_l01Finite_ok (gam_nil)) tab_ok (by kernel_rfl) Tryz.func76 (by kernel_rfl) (by kernel_rfl) Tryz.ntmps76 Tryz.results76 (loopsOK_none rfl _) 100000 fun args t h => ?_
  unfold spec_l02Least_c at h
  split at h
  · rename_i a0
    cases h
    exact ⟨rfl, agree_tot (mk := spec_l02Least_mk) (t := spec_l02Least_tree a0) (by unfold Agree; kernel_rfl) (by kernel_rfl)⟩
  · cases h

/-- loop.example/g01284/spec.l00In -/
def spec_l00In_tree (a0 : Int) (a1 : Int) (a2 : Int) : DT (Bool) :=
  let x0 := decide (a0 ≥ a1);
  .ask x0
  (
   let x1 := decide (a0 ≤ a2);
   .leaf x1)
  (
   .leaf false)
def spec_l00In (a0 : Int) (a1 : Int) (a2 : Int) : Bool := (spec_l00In_tree a0 a1 a2).val
def spec_l00In_mk (p : Bool) : Ret := ⟨.bool p, []⟩
def spec_l00In_c : Con := fun args => match args with
  | [.int .i64 a0, .int .i64 a1, .int .i64 a2] => some (.leaf (spec_l00In_mk (spec_l00In a0 a1 a2)))
  | _ => none
set_option maxRecDepth 100000 in
theorem spec_l00In_ok : FunOK Tryz.prog 77 spec_l00In_c.fn := by
  refine con_ok (Γ := gam []) (gam_nil) tab_ok (by kernel_rfl) Tryz.func77 (by kernel_rfl) (by kernel_rfl) Tryz.ntmps77 Tryz.results77 (loopsOK_none rfl _) 100000 fun args t h => ?_
  unfold spec_l00In_c at h
  split at h
  · rename_i a0 a1 a2
    cases h
    exact ⟨rfl, agree_tot (mk := spec_l00In_mk) (t := spec_l00In_tree a0 a1 a2) (by unfold Agree; kernel_rfl) (by kernel_rfl)⟩
  · cases h

/-- loop.example/g01284/spec.l01AngleWide -/
def spec_l01AngleWide_tree (a0 : Nat) (a1 : Nat) : DT (Nat) :=
  let x0 := fsub .f64 a0 a0;
  let x1 := fne .f64 x0 0;
  .ask x1
  (
   let x2 := math_NaN ;
   .leaf x2)
  (
   let x2 := fsub .f64 a1 a1;
   let x3 := fne .f64 x2 0;
   .ask x3
   (
    let x4 := math_NaN ;
    .leaf x4)
   (
    let x4 := feq .f64 a1 0;
    .ask x4
    (
     let x5 := feq .f64 a0 0;
     .ask x5
     (
      .leaf 0)
     (
      let x6 := math_Abs a0;
      let x7 := math_Abs a1;
      let x8 := fgt .f64 x6 x7;
      .ask x8
      (
       let x9 := fdiv .f64 x7 x6;
       .skip (
       let x10 := fmul .f64 x9 x9;
       let x11 := fadd .f64 4607182418800017408 x10;
       let x12 := math_Sqrt x11;
       let x13 := fadd .f64 4607182418800017408 x12;
       let x14 := fdiv .f64 x9 x13;
       .skip (
       let x15 := fmul .f64 x14 x14;
       let x16 := fadd .f64 4607182418800017408 x15;
       let x17 := math_Sqrt x16;
       let x18 := fadd .f64 4607182418800017408 x17;
       let x19 := fdiv .f64 x14 x18;
       .skip (
       let x20 := fmul .f64 x19 x19;
       let x21 := fadd .f64 4607182418800017408 x20;
       let x22 := math_Sqrt x21;
       let x23 := fadd .f64 4607182418800017408 x22;
       let x24 := fdiv .f64 x19 x23;
       .skip (
       let x25 := fmul .f64 x24 x24;
       .skip (
       let x26 := fofInt .f64 15;
       let x27 := fdiv .f64 4607182418800017408 x26;
       let x28 := fmul .f64 x25 0;
       let x29 := fsub .f64 x27 x28;
       .skip (
       let x30 := fofInt .f64 13;
       let x31 := fdiv .f64 4607182418800017408 x30;
       let x32 := fmul .f64 x25 x29;
       let x33 := fsub .f64 x31 x32;
       .skip (
       let x34 := fofInt .f64 11;
       let x35 := fdiv .f64 4607182418800017408 x34;
       let x36 := fmul .f64 x25 x33;
       let x37 := fsub .f64 x35 x36;
       .skip (
       let x38 := fofInt .f64 9;
       let x39 := fdiv .f64 4607182418800017408 x38;
       let x40 := fmul .f64 x25 x37;
       let x41 := fsub .f64 x39 x40;
       .skip (
       let x42 := fofInt .f64 7;
       let x43 := fdiv .f64 4607182418800017408 x42;
       let x44 := fmul .f64 x25 x41;
       let x45 := fsub .f64 x43 x44;
       .skip (
       let x46 := fofInt .f64 5;
       let x47 := fdiv .f64 4607182418800017408 x46;
       let x48 := fmul .f64 x25 x45;
       let x49 := fsub .f64 x47 x48;
       .skip (
       let x50 := fofInt .f64 3;
       let x51 := fdiv .f64 4607182418800017408 x50;
       let x52 := fmul .f64 x25 x49;
       let x53 := fsub .f64 x51 x52;
       .skip (
       let x54 := fofInt .f64 1;
       let x55 := fdiv .f64 4607182418800017408 x54;
       let x56 := fmul .f64 x25 x53;
       let x57 := fsub .f64 x55 x56;
       .skip (
       let x58 := fmul .f64 x24 x57;
       let x59 := fmul .f64 4620693217682128896 x58;
       let x60 := fdiv .f64 x59 4618760256179416344;
       .ask x8
       (
        let x61 := fsub .f64 4598175219545276416 x60;
        let x62 := flt .f64 a1 0;
        .ask x62
        (
         let x63 := fsub .f64 4602678819172646912 x61;
         let x64 := flt .f64 a0 0;
         .ask x64
         (
          let x65 := fneg .f64 x63;
          .leaf x65)
         (
          .leaf x63))
        (
         let x63 := flt .f64 a0 0;
         .ask x63
         (
          let x64 := fneg .f64 x61;
          .leaf x64)
         (
          .leaf x61)))
       (
        let x61 := flt .f64 a1 0;
        .ask x61
        (
         let x62 := fsub .f64 4602678819172646912 x60;
         let x63 := flt .f64 a0 0;
         .ask x63
         (
          let x64 := fneg .f64 x62;
          .leaf x64)
         (
          .leaf x62))
        (
         let x62 := flt .f64 a0 0;
         .ask x62
         (
          let x63 := fneg .f64 x60;
          .leaf x63)
         (
          .leaf x60)))))))))))))))))
      (
       let x9 := fdiv .f64 x6 x7;
       .skip (
       let x10 := fmul .f64 x9 x9;
       let x11 := fadd .f64 4607182418800017408 x10;
       let x12 := math_Sqrt x11;
       let x13 := fadd .f64 4607182418800017408 x12;
       let x14 := fdiv .f64 x9 x13;
       .skip (
       let x15 := fmul .f64 x14 x14;
       let x16 := fadd .f64 4607182418800017408 x15;
       let x17 := math_Sqrt x16;
       let x18 := fadd .f64 4607182418800017408 x17;
       let x19 := fdiv .f64 x14 x18;
       .skip (
       let x20 := fmul .f64 x19 x19;
       let x21 := fadd .f64 4607182418800017408 x20;
       let x22 := math_Sqrt x21;
       let x23 := fadd .f64 4607182418800017408 x22;
       let x24 := fdiv .f64 x19 x23;
       .skip (
       let x25 := fmul .f64 x24 x24;
       .skip (
       let x26 := fofInt .f64 15;
       let x27 := fdiv .f64 4607182418800017408 x26;
       let x28 := fmul .f64 x25 0;
       let x29 := fsub .f64 x27 x28;
       .skip (
       let x30 := fofInt .f64 13;
       let x31 := fdiv .f64 4607182418800017408 x30;
       let x32 := fmul .f64 x25 x29;
       let x33 := fsub .f64 x31 x32;
       .skip (
       let x34 := fofInt .f64 11;
       let x35 := fdiv .f64 4607182418800017408 x34;
       let x36 := fmul .f64 x25 x33;
       let x37 := fsub .f64 x35 x36;
       .skip (
       let x38 := fofInt .f64 9;
       let x39 := fdiv .f64 4607182418800017408 x38;
       let x40 := fmul .f64 x25 x37;
       let x41 := fsub .f64 x39 x40;
       .skip (
       let x42 := fofInt .f64 7;
       let x43 := fdiv .f64 4607182418800017408 x42;
       let x44 := fmul .f64 x25 x41;
       let x45 := fsub .f64 x43 x44;
       .skip (
       let x46 := fofInt .f64 5;
       let x47 := fdiv .f64 4607182418800017408 x46;
       let x48 := fmul .f64 x25 x45;
       let x49 := fsub .f64 x47 x48;
       .skip (
       let x50 := fofInt .f64 3;
       let x51 := fdiv .f64 4607182418800017408 x50;
       let x52 := fmul .f64 x25 x49;
       let x53 := fsub .f64 x51 x52;
       .skip (
       let x54 := fofInt .f64 1;
       let x55 := fdiv .f64 4607182418800017408 x54;
       let x56 := fmul .f64 x25 x53;
       let x57 := fsub .f64 x55 x56;
       .skip (
       let x58 := fmul .f64 x24 x57;
       let x59 := fmul .f64 4620693217682128896 x58;
       let x60 := fdiv .f64 x59 4618760256179416344;
       .ask x8
       (
        let x61 := fsub .f64 4598175219545276416 x60;
        let x62 := flt .f64 a1 0;
        .ask x62
        (
         let x63 := fsub .f64 4602678819172646912 x61;
         let x64 := flt .f64 a0 0;
         .ask x64
         (
          let x65 := fneg .f64 x63;
          .leaf x65)
         (
          .leaf x63))
        (
         let x63 := flt .f64 a0 0;
         .ask x63
         (
          let x64 := fneg .f64 x61;
          .leaf x64)
         (
          .leaf x61)))
       (
        let x61 := flt .f64 a1 0;
        .ask x61
        (
         let x62 := fsub .f64 4602678819172646912 x60;
         let x63 := flt .f64 a0 0;
         .ask x63
         (
          let x64 := fneg .f64 x62;
          .leaf x64)
         (
          .leaf x62))
        (
         let x62 := flt .f64 a0 0;
         .ask x62
         (
          let x63 := fneg .f64 x60;
          .leaf x63)
         (
          .leaf x60)))))))))))))))))))
    (
     let x5 := math_Abs a0;
     let x6 := math_Abs a1;
     let x7 := fgt .f64 x5 x6;
     .ask x7
     (
      let x8 := fdiv .f64 x6 x5;
      .skip (
      let x9 := fmul .f64 x8 x8;
      let x10 := fadd .f64 4607182418800017408 x9;
      let x11 := math_Sqrt x10;
      let x12 := fadd .f64 4607182418800017408 x11;
      let x13 := fdiv .f64 x8 x12;
      .skip (
      let x14 := fmul .f64 x13 x13;
      let x15 := fadd .f64 4607182418800017408 x14;
      let x16 := math_Sqrt x15;
      let x17 := fadd .f64 4607182418800017408 x16;
      let x18 := fdiv .f64 x13 x17;
      .skip (
      let x19 := fmul .f64 x18 x18;
      let x20 := fadd .f64 4607182418800017408 x19;
      let x21 := math_Sqrt x20;
      let x22 := fadd .f64 4607182418800017408 x21;
      let x23 := fdiv .f64 x18 x22;
      .skip (
      let x24 := fmul .f64 x23 x23;
      .skip (
      let x25 := fofInt .f64 15;
      let x26 := fdiv .f64 4607182418800017408 x25;
      let x27 := fmul .f64 x24 0;
      let x28 := fsub .f64 x26 x27;
      .skip (
      let x29 := fofInt .f64 13;
      let x30 := fdiv .f64 4607182418800017408 x29;
      let x31 := fmul .f64 x24 x28;
      let x32 := fsub .f64 x30 x31;
      .skip (
      let x33 := fofInt .f64 11;
      let x34 := fdiv .f64 4607182418800017408 x33;
      let x35 := fmul .f64 x24 x32;
      let x36 := fsub .f64 x34 x35;
      .skip (
      let x37 := fofInt .f64 9;
      let x38 := fdiv .f64 4607182418800017408 x37;
      let x39 := fmul .f64 x24 x36;
      let x40 := fsub .f64 x38 x39;
      .skip (
      let x41 := fofInt .f64 7;
      let x42 := fdiv .f64 4607182418800017408 x41;
      let x43 := fmul .f64 x24 x40;
      let x44 := fsub .f64 x42 x43;
      .skip (
      let x45 := fofInt .f64 5;
      let x46 := fdiv .f64 4607182418800017408 x45;
      let x47 := fmul .f64 x24 x44;
      let x48 := fsub .f64 x46 x47;
      .skip (
      let x49 := fofInt .f64 3;
      let x50 := fdiv .f64 4607182418800017408 x49;
      let x51 := fmul .f64 x24 x48;
      let x52 := fsub .f64 x50 x51;
      .skip (
      let x53 := fofInt .f64 1;
      let x54 := fdiv .f64 4607182418800017408 x53;
      let x55 := fmul .f64 x24 x52;
      let x56 := fsub .f64 x54 x55;
      .skip (
      let x57 := fmul .f64 x23 x56;
      let x58 := fmul .f64 4620693217682128896 x57;
      let x59 := fdiv .f64 x58 4618760256179416344;
      .ask x7
      (
       let x60 := fsub .f64 4598175219545276416 x59;
       let x61 := flt .f64 a1 0;
       .ask x61
       (
        let x62 := fsub .f64 4602678819172646912 x60;
        let x63 := flt .f64 a0 0;
        .ask x63
        (
         let x64 := fneg .f64 x62;
         .leaf x64)
        (
         .leaf x62))
       (
        let x62 := flt .f64 a0 0;
        .ask x62
        (
         let x63 := fneg .f64 x60;
         .leaf x63)
        (
         .leaf x60)))
      (
       let x60 := flt .f64 a1 0;
       .ask x60
       (
        let x61 := fsub .f64 4602678819172646912 x59;
        let x62 := flt .f64 a0 0;
        .ask x62
        (
         let x63 := fneg .f64 x61;
         .leaf x63)
        (
         .leaf x61))
       (
        let x61 := flt .f64 a0 0;
        .ask x61
        (
         let x62 := fneg .f64 x59;
         .leaf x62)
        (
         .leaf x59)))))))))))))))))
     (
      let x8 := fdiv .f64 x5 x6;
      .skip (
      let x9 := fmul .f64 x8 x8;
      let x10 := fadd .f64 4607182418800017408 x9;
      let x11 := math_Sqrt x10;
      let x12 := fadd .f64 4607182418800017408 x11;
      let x13 := fdiv .f64 x8 x12;
      .skip (
      let x14 := fmul .f64 x13 x13;
      let x15 := fadd .f64 4607182418800017408 x14;
      let x16 := math_Sqrt x15;
      let x17 := fadd .f64 4607182418800017408 x16;
      let x18 := fdiv .f64 x13 x17;
      .skip (
      let x19 := fmul .f64 x18 x18;
      let x20 := fadd .f64 4607182418800017408 x19;
      let x21 := math_Sqrt x20;
      let x22 := fadd .f64 4607182418800017408 x21;
      let x23 := fdiv .f64 x18 x22;
      .skip (
      let x24 := fmul .f64 x23 x23;
      .skip (
      let x25 := fofInt .f64 15;
      let x26 := fdiv .f64 4607182418800017408 x25;
      let x27 := fmul .f64 x24 0;
      let x28 := fsub .f64 x26 x27;
      .skip (
      let x29 := fofInt .f64 13;
      let x30 := fdiv .f64 4607182418800017408 x29;
      let x31 := fmul .f64 x24 x28;
      let x32 := fsub .f64 x30 x31;
      .skip (
      let x33 := fofInt .f64 11;
      let x34 := fdiv .f64 4607182418800017408 x33;
      let x35 := fmul .f64 x24 x32;
      let x36 := fsub .f64 x34 x35;
      .skip (
      let x37 := fofInt .f64 9;
      let x38 := fdiv .f64 4607182418800017408 x37;
      let x39 := fmul .f64 x24 x36;
      let x40 := fsub .f64 x38 x39;
      .skip (
      let x41 := fofInt .f64 7;
      let x42 := fdiv .f64 4607182418800017408 x41;
      let x43 := fmul .f64 x24 x40;
      let x44 := fsub .f64 x42 x43;
      .skip (
      let x45 := fofInt .f64 5;
      let x46 := fdiv .f64 4607182418800017408 x45;
      let x47 := fmul .f64 x24 x44;
      let x48 := fsub .f64 x46 x47;
      .skip (
      let x49 := fofInt .f64 3;
      let x50 := fdiv .f64 4607182418800017408 x49;
      let x51 := fmul .f64 x24 x48;
      let x52 := fsub .f64 x50 x51;
      .skip (
      let x53 := fofInt .f64 1;
      let x54 := fdiv .f64 4607182418800017408 x53;
      let x55 := fmul .f64 x24 x52;
      let x56 := fsub .f64 x54 x55;
      .skip (
      let x57 := fmul .f64 x23 x56;
      let x58 := fmul .f64 4620693217682128896 x57;
      let x59 := fdiv .f64 x58 4618760256179416344;
      .ask x7
      (
       let x60 := fsub .f64 4598175219545276416 x59;
       let x61 := flt .f64 a1 0;
       .ask x61
       (
        let x62 := fsub .f64 4602678819172646912 x60;
        let x63 := flt .f64 a0 0;
        .ask x63
        (
         let x64 := fneg .f64 x62;
         .leaf x64)
        (
         .leaf x62))
       (
        let x62 := flt .f64 a0 0;
        .ask x62
        (
         let x63 := fneg .f64 x60;
         .leaf x63)
        (
         .leaf x60)))
      (
       let x60 := flt .f64 a1 0;
       .ask x60
       (
        let x61 := fsub .f64 4602678819172646912 x59;
        let x62 := flt .f64 a0 0;
        .ask x62
        (
         let x63 := fneg .f64 x61;
         .leaf x63)
        (
         .leaf x61))
       (
        let x61 := flt .f64 a0 0;
        .ask x61
        (
         let x62 := fneg .f64 x59;
         .leaf x62)
        (
         .leaf x59))))))))))))))))))))
def spec_l01AngleWide (a0 : Nat) (a1 : Nat) : Nat := (spec_l01AngleWide_tree a0 a1).val
def spec_l01AngleWide_mk (p : Nat) : Ret := ⟨.flt .f64 p, []⟩
def spec_l01AngleWide_c : Con := fun args => match args with
  | [.flt .f64 a0, .flt .f64 a1] => some (.leaf (spec_l01AngleWide_mk (spec_l01AngleWide a0 a1)))
  | _ => none
set_option maxRecDepth 100000 in
theorem spec_l01AngleWide_ok : FunOK Tryz.prog 127 spec_l01AngleWide_c.fn := by
  refine con_ok (Γ := gam [(64, math_NaN_c), (91, math_Abs_c), (66, math_Sqrt_c)]) (gam_cons math_NaN_ok (gam_cons math_Abs_ok (gam_cons math_Sqrt_ok (gam_nil)))) tab_ok (by kernel_rfl) Tryz.func127 (by kernel_rfl) (by kernel_rfl) Tryz.ntmps127 Tryz.results127 (loopsOK_none rfl _) 100000 fun args t h => ?_
  unfold spec_l01AngleWide_c at h
  split at h
  · rename_i a0 a1
    cases h
    exact ⟨rfl, agree_tot (mk := spec_l01AngleWide_mk) (t := spec_l01AngleWide_tree a0 a1) (by unfold Agree; kernel_rfl) (by kernel_rfl)⟩
  · cases h

/-- loop.example/g01284/spec.l01Angle -/
def spec_l01Angle_tree (a0 : Nat) (a1 : Nat) : DT (Nat) :=
  .need ((fconvOk .f32 a0 .f64)) (
  let x0 := fconv .f32 a0 .f64;
  .need ((fconvOk .f32 a1 .f64)) (
  let x1 := fconv .f32 a1 .f64;
  let x2 := spec_l01AngleWide x0 x1;
  .need ((spec_l01Narrow_need x2)) (
  let x3 := spec_l01Narrow x2;
  .leaf x3)))
def spec_l01Angle (a0 : Nat) (a1 : Nat) : Nat := (spec_l01Angle_tree a0 a1).val
def spec_l01Angle_need (a0 : Nat) (a1 : Nat) : Bool := (spec_l01Angle_tree a0 a1).ok
def spec_l01Angle_mk (p : Nat) : Ret := ⟨.flt .f32 p, []⟩
def spec_l01Angle_c : Con := fun args => match args with
  | [.flt .f32 a0, .flt .f32 a1] => some (.need (spec_l01Angle_need a0 a1) (.leaf (spec_l01Angle_mk (spec_l01Angle a0 a1))))
  | _ => none
set_option maxRecDepth 100000 in
theorem spec_l01Angle_ok : FunOK Tryz.prog 106 spec_l01Angle_c.fn := by
  refine con_ok (Γ := gam [(127, spec_l01AngleWide_c), (55, spec_l01Narrow_c)]) (gam_cons spec_l01AngleWide_ok (gam_cons spec_l01Narrow_ok (gam_nil))) tab_ok (by kernel_rfl) Tryz.func106 (by kernel_rfl) (by kernel_rfl) Tryz.ntmps106 Tryz.results106 (loopsOK_none rfl _) 100000 fun args t h => ?_
  unfold spec_l01Angle_c at h
  split at h
  · rename_i a0 a1
    cases h
    exact ⟨rfl, agree_need (mk := spec_l01Angle_mk) (t := spec_l01Angle_tree a0 a1) (by unfold Agree; kernel_rfl)⟩
  · cases h

/-- loop.example/g01284/spec.l07Look -/
def spec_l07Look_tree (a0 : Look) : DT (Bool) :=
  let x0 := spec_l01Finite a0.Time;
  .ask x0
  (
   let x1 := spec_l01Finite a0.Right;
   .ask x1
   (
    let x2 := spec_l01Finite a0.Up;
    .ask x2
    (
     let x3 := spec_l01Finite a0.Far;
     .ask x3
     (
      let x4 := spec_l02Least a0.Weight;
      .leaf x4)
     (
      .leaf false))
    (
     .leaf false))
   (
    .leaf false))
  (
   .leaf false)
def spec_l07Look (a0 : Look) : Bool := (spec_l07Look_tree a0).val
def spec_l07Look_mk (p : Bool) : Ret := ⟨.bool p, []⟩
def spec_l07Look_c0 : Con := fun args => match args with
  | [.vcell [.flt .f32 a0_0, .flt .f32 a0_1, .flt .f32 a0_2, .flt .f32 a0_3, .flt .f32 a0_4] 0] => some (.leaf (spec_l07Look_mk (spec_l07Look (⟨a0_0, a0_1, a0_2, a0_3, a0_4⟩ : Look))))
  | _ => none
set_option maxRecDepth 100000 in
theorem spec_l07Look_ok0 : FunOK Tryz.prog 107 spec_l07Look_c0.fn := by
  refine con_ok (Γ := gam [(26, spec_l01Finite_c), (76, spec_l02Least_c)]) (gam_cons spec_l01Finite_ok (gam_cons spec_l02Least_ok (gam_nil))) tab_ok (by kernel_rfl) Tryz.func107 (by kernel_rfl) (by kernel_rfl) Tryz.ntmps107 Tryz.results107 (loopsOK_none rfl _) 100000 fun args t h => ?_
  unfold spec_l07Look_c0 at h
  split at h
  · rename_i a0_0 a0_1 a0_2 a0_3 a0_4
    cases h
    exact ⟨rfl, agree_tot (mk := spec_l07Look_mk) (t := spec_l07Look_tree (⟨a0_0, a0_1, a0_2, a0_3, a0_4⟩ : Look)) (by unfold Agree; kernel_rfl) (by kernel_rfl)⟩
  · cases h
def spec_l07Look_c : Con := fun args => spec_l07Look_c0 (norms 0 [.ptr 5] args)
set_option maxRecDepth 100000 in
theorem spec_l07Look_ok : FunOK Tryz.prog 107 spec_l07Look_c.fn := con_norm [.ptr 5] spec_l07Look_ok0

/-- loop.example/g01284/spec.l07At -/
def spec_l07At_tree (a0 : Orbit) (a1 : Nat) (a2 : Nat) : DT (Look × Bool) :=
  .need ((spec_l03Later_need (⟨a0.Long, a0.Round, a0.Tilt, a0.Node, a0.Peri, a0.Phase⟩ : Orbit) a1 a2)) (
  let x0 := spec_l03Later (⟨a0.Long, a0.Round, a0.Tilt, a0.Node, a0.Peri, a0.Phase⟩ : Orbit) a1 a2;
  .ask (!x0.2)
  (
   .leaf ((⟨0, 0, 0, 0, 0⟩ : Look), false))
  (
   .need ((spec_l03State_need (⟨x0.1.Long, x0.1.Round, x0.1.Tilt, x0.1.Node, x0.1.Peri, x0.1.Phase⟩ : Orbit) a1)) (
   let x1 := spec_l03State (⟨x0.1.Long, x0.1.Round, x0.1.Tilt, x0.1.Node, x0.1.Peri, x0.1.Phase⟩ : Orbit) a1;
   .ask (!x1.2.2)
   (
    .leaf ((⟨0, 0, 0, 0, 0⟩ : Look), false))
   (
    .need ((spec_l01Angle_need x1.1.Y x1.1.X)) (
    let x2 := spec_l01Angle x1.1.Y x1.1.X;
    let x3 := fmul .f32 x1.1.X x1.1.X;
    let x4 := fmul .f32 x1.1.Y x1.1.Y;
    let x5 := fadd .f32 x3 x4;
    .need ((spec_l01Sqrt_need x5)) (
    let x6 := spec_l01Sqrt x5;
    .need ((spec_l01Angle_need x1.1.Z x6)) (
    let x7 := spec_l01Angle x1.1.Z x6;
    .need ((spec_l01VLong_need (⟨x1.1.X, x1.1.Y, x1.1.Z⟩ : Vec))) (
    let x8 := spec_l01VLong (⟨x1.1.X, x1.1.Y, x1.1.Z⟩ : Vec);
    let x9 := spec_l07Look (⟨a2, x2, x7, x8, 1065353216⟩ : Look);
    .ask (!x9)
    (
     .leaf ((⟨0, 0, 0, 0, 0⟩ : Look), false))
    (
     .leaf ((⟨a2, x2, x7, x8, 1065353216⟩ : Look), true))))))))))
def spec_l07At (a0 : Orbit) (a1 : Nat) (a2 : Nat) : Look × Bool := (spec_l07At_tree a0 a1 a2).val
def spec_l07At_need (a0 : Orbit) (a1 : Nat) (a2 : Nat) : Bool := (spec_l07At_tree a0 a1 a2).ok
def spec_l07At_mk (p : Look × Bool) : Ret := ⟨.tup [.agg [.flt .f32 p.1.Time, .flt .f32 p.1.Right, .flt .f32 p.1.Up, .flt .f32 p.1.Far, .flt .f32 p.1.Weight], .bool p.2], []⟩
def spec_l07At_c : Con := fun args => match args with
  | [.agg [.flt .f32 a0_0, .flt .f32 a0_1, .flt .f32 a0_2, .flt .f32 a0_3, .flt .f32 a0_4, .flt .f32 a0_5], .flt .f32 a1, .flt .f32 a2] => some (.need (spec_l07At_need (⟨a0_0, a0_1, a0_2, a0_3, a0_4, a0_5⟩ : Orbit) a1 a2) (.leaf (spec_l07At_mk (spec_l07At (⟨a0_0, a0_1, a0_2, a0_3, a0_4, a0_5⟩ : Orbit) a1 a2))))
  | _ => none
set_option maxRecDepth 100000 in
theorem spec_l07At_ok : FunOK Tryz.prog 78 spec_l07At_c.fn := by
  refine con_ok (Γ := gam [(27, spec_l03Later_c), (33, spec_l03State_c), (106, spec_l01Angle_c), (74, spec_l01Sqrt_c), (36, spec_l01VLong_c), (107, spec_l07Look_c)]) (gam_cons spec_l03Later_ok (gam_cons spec_l03State_ok (gam_cons spec_l01Angle_ok (gam_cons spec_l01Sqrt_ok (gam_cons spec_l01VLong_ok (gam_cons spec_l07Look_ok (gam_nil))))))) tab_ok (by kernel_rfl) Tryz.func78 (by kernel_rfl) (by kernel_rfl) Tryz.ntmps78 Tryz.results78 (loopsOK_none rfl _) 100000 fun args t h => ?_
  unfold spec_l07At_c at h
  split at h
  · rename_i a0_0 a0_1 a0_2 a0_3 a0_4 a0_5 a1 a2
    cases h
    exact ⟨rfl, agree_need (mk := spec_l07At_mk) (t := spec_l07At_tree (⟨a0_0, a0_1, a0_2, a0_3, a0_4, a0_5⟩ : Orbit) a1 a2) (by unfold Agree; kernel_rfl)⟩
  · cases h

/-- loop.example/g01284/spec.l07Draw -/
def spec_l07Draw_tree (a0 : Nat) (a1 : Int) : DT (Nat × Int) :=
  let x0 := IntKind.wrap .i64 (1103515245 * a1);
  let x1 := IntKind.wrap .i64 (x0 + 12345);
  .skip (
  let x2 := Int.tmod x1 2147483648;
  .skip (
  let x3 := IntKind.wrap .i64 (Int.tdiv x2 65536);
  let x4 := IntKind.wrap .i64 (x3 - 16384);
  let x5 := fofInt .f32 x4;
  let x6 := fdiv .f32 x5 1182793728;
  let x7 := fmul .f32 a0 x6;
  .leaf (x7, x2)))
def spec_l07Draw (a0 : Nat) (a1 : Int) : Nat × Int := (spec_l07Draw_tree a0 a1).val
def spec_l07Draw_mk (p : Nat × Int) : Ret := ⟨.tup [.flt .f32 p.1, .int .i64 p.2], []⟩
def spec_l07Draw_c : Con := fun args => match args with
  | [.flt .f32 a0, .int .i64 a1] => some (.leaf (spec_l07Draw_mk (spec_l07Draw a0 a1)))
  | _ => none
set_option maxRecDepth 100000 in
theorem spec_l07Draw_ok : FunOK Tryz.prog 79 spec_l07Draw_c.fn := by
  refine con_ok (Γ := gam []) (gam_nil) tab_ok (by kernel_rfl) Tryz.func79 (by kernel_rfl) (by kernel_rfl) Tryz.ntmps79 Tryz.results79 (loopsOK_none rfl _) 100000 fun args t h => ?_
  unfold spec_l07Draw_c at h
  split at h
  · rename_i a0 a1
    cases h
    exact ⟨rfl, agree_tot (mk := spec_l07Draw_mk) (t := spec_l07Draw_tree a0 a1) (by unfold Agree; kernel_rfl) (by kernel_rfl)⟩
  · cases h

/-- a loop of spec_l07Are -/
def spec_l07Are_loop0_step (p : List Look) (s : Int) : Round (Int) ((Unit) ⊕ (Unit)) :=
  let x0 := ((List.length p : Nat) : Int);
  let x1 := decide (s < x0);
  .ask x1
  (
   let x2 := ((List.length p : Nat) : Int);
   let x3 := decide (x2 ≤ 24);
   .ask x3
   (
    .need ((decide (0 ≤ s) && decide (s < ((List.length p : Nat) : Int)))) (
    let x4 := List.getD p (Int.toNat s) default;
    let x5 := spec_l07Look (⟨x4.Time, x4.Right, x4.Up, x4.Far, x4.Weight⟩ : Look);
    .ask (!x5)
    (
     .leaf (.inr (.inl ()), []))
    (
     let x6 := IntKind.wrap .i64 (s + 1);
     .leaf (.inl x6, []))))
   (
    .leaf (.inr (.inr ()), [])))
  (
   .leaf (.inr (.inr ()), []))
def spec_l07Are_loop0_L (p : List Look) : LoopS (Int) ((Unit) ⊕ (Unit)) := { tl := fun s => [.vslc 1 .look p, .junk, .junk, .int .i64 s], hl := fun s => [], ex := fun r => match r with | .inl r => .ret | .inr r => .exit 0, otl := fun r => match r with | .inl r => [.junk, .junk, .bool false] | .inr r => [.vslc 1 .look p], ohl := fun r => match r with | .inl r => [] | .inr r => [] }
def spec_l07Are_loop0_ext : St → Option ((List Look) × (Int) × List Nat) := fun S => match (S.tm 0).unK, (S.tm 3).unK with
  | .vslc 1 .look q0, .int .i64 q1 => some (q0, q1, [])
  | _, _ => none
def spec_l07Are_loop0_post (p : List Look) (r : (Unit) ⊕ (Unit)) : DT (Ex × St) := .ask (isL r) (.leaf (.ret, LSt [.junk, .junk, .bool false] [])) (.leaf (.exit 0, LSt [.vslc 1 .look p] []))
def spec_l07Are_loop0 (p : List Look) (s : Int) : (Unit) ⊕ (Unit) := loopVal (spec_l07Are_loop0_step p) s
def spec_l07Are_loop0_ends (p : List Look) (s : Int) : Bool := loopEnds (spec_l07Are_loop0_step p) s
def spec_l07Are_loop0_F : LoopF := loopF spec_l07Are_loop0_step spec_l07Are_loop0_ext spec_l07Are_loop0_post
set_option maxRecDepth 100000 in
theorem spec_l07Are_loop0_hext : ∀ S p s fl, spec_l07Are_loop0_ext S = some (p, s, fl) → Norm S fl ((spec_l07Are_loop0_L p).tl s) ((spec_l07Are_loop0_L p).hl s) (spec_l07Are_loop0_L p).gl := by
  intro S p s fl h
  unfold spec_l07Are_loop0_ext at h
  (repeat' split at h) <;> first
    | (cases h; constructor <;> simp_all [spec_l07Are_loop0_L, keepT, keepH, rens, renH, PV.ren, Blk.ren, fOf, lget, nodup, natIn, lenEq, gtm, PV.unK])
    | cases h
set_option maxRecDepth 100000 in
theorem spec_l07Are_loop0_hpost : ∀ p r e S', (spec_l07Are_loop0_post p r).get = some (e, S') → e = (spec_l07Are_loop0_L p).ex r ∧ S' = LSt ((spec_l07Are_loop0_L p).otl r) ((spec_l07Are_loop0_L p).ohl r) ((spec_l07Are_loop0_L p).ogl r) := by
  intro p r e S' h
  unfold spec_l07Are_loop0_post at h
  cases r <;> (simp only [isL, DT.get, Option.some.injEq, Prod.mk.injEq] at h; exact ⟨h.1.symm, h.2.symm⟩)

def spec_l07Are_loops : Nat → Option LoopF := loopTab [(2, spec_l07Are_loop0_F)]
set_option maxRecDepth 100000 in
theorem spec_l07Are_l0 : LoopOK Tryz.prog ⟨gam [(107, spec_l07Look_c)], tab, 23, spec_l07Are_loops⟩ (lp Tryz.f80 0) :=
  loopOK_some (F := spec_l07Are_loop0_F) (by kernel_rfl) (loopF_ok (E := ⟨gam [(107, spec_l07Look_c)], tab, 23, spec_l07Are_loops⟩) ⟨gam_cons spec_l07Look_ok (gam_nil), tab_ok, by kernel_rfl⟩ (fuel := 100000) (loopsOK_list (l := []) (by kernel_rfl) trivial) (L := spec_l07Are_loop0_L) (fun p s => by unfold AgreeL; exact ⟨by kernel_rfl, by kernel_rfl⟩) (fun _ r h => by cases r <;> exact Ex.noConfusion h) spec_l07Are_loop0_hext spec_l07Are_loop0_hpost)
/-- loop.example/g01284/spec.l07Are -/
def spec_l07Are_tree (a0 : List Look) : DT (Bool) :=
  .need ((spec_l07Are_loop0_ends a0 0)) (
  let x0 := spec_l07Are_loop0 a0 0;
  .ask ((isL x0))
  (
   .leaf false)
  (
   let x1 := ((List.length a0 : Nat) : Int);
   let x2 := decide (x1 ≤ 24);
   .leaf x2))
def spec_l07Are (a0 : List Look) : Bool := (spec_l07Are_tree a0).val
def spec_l07Are_need (a0 : List Look) : Bool := (spec_l07Are_tree a0).ok
def spec_l07Are_mk (p : Bool) : Ret := ⟨.bool p, []⟩
def spec_l07Are_c0 : Con := fun args => match args with
  | [.vslc 1 .look a0] => some (.need (spec_l07Are_need a0) (.leaf (spec_l07Are_mk (spec_l07Are a0))))
  | _ => none
set_option maxRecDepth 100000 in
theorem spec_l07Are_ok0 : FunOK Tryz.prog 80 spec_l07Are_c0.fn := by
  refine con_ok (Γ := gam [(107, spec_l07Look_c)]) (gam_cons spec_l07Look_ok (gam_nil)) tab_ok (by kernel_rfl) Tryz.func80 (by kernel_rfl) (by kernel_rfl) Tryz.ntmps80 Tryz.results80 (loops := spec_l07Are_loops) (loopsOK_list (l := [lp Tryz.f80 0]) (by kernel_rfl) ⟨spec_l07Are_l0, trivial⟩) 100000 fun args t h => ?_
  unfold spec_l07Are_c0 at h
  split at h
  · rename_i a0
    cases h
    exact ⟨rfl, agree_need (mk := spec_l07Are_mk) (t := spec_l07Are_tree a0) (by unfold Agree; kernel_rfl)⟩
  · cases h
def spec_l07Are_c : Con := fun args => spec_l07Are_c0 (norms 0 [.slc .look] args)
set_option maxRecDepth 100000 in
theorem spec_l07Are_ok : FunOK Tryz.prog 80 spec_l07Are_c.fn := con_norm [.slc .look] spec_l07Are_ok0

/-- a loop of spec_NoisyLooks -/
def spec_NoisyLooks_loop0_step (p : Nat × List Nat × Nat × Int × Nat × Nat × Nat × Nat × Nat × Nat) (s : Int × Int × List Look) : Round (Int × Int × List Look) ((Int) ⊕ (Int × List Look)) :=
  let x0 := decide (s.2.1 < p.2.2.2.1);
  .ask x0
  (
   .need ((decide (0 ≤ s.2.1) && decide (s.2.1 < ((List.length p.2.1 : Nat) : Int)))) (
   let x1 := List.getD p.2.1 (Int.toNat s.2.1) default;
   let x2 := spec_l01Finite x1;
   .ask (!x2)
   (
    .leaf (.inr (.inl 0), []))
   (
    .need ((decide (0 ≤ s.2.1) && decide (s.2.1 < ((List.length p.2.1 : Nat) : Int)))) (
    let x3 := List.getD p.2.1 (Int.toNat s.2.1) default;
    .need ((spec_l07At_need (⟨p.2.2.2.2.1, p.2.2.2.2.2.1, p.2.2.2.2.2.2.1, p.2.2.2.2.2.2.2.1, p.2.2.2.2.2.2.2.2.1, p.2.2.2.2.2.2.2.2.2⟩ : Orbit) p.1 x3)) (
    let x4 := spec_l07At (⟨p.2.2.2.2.1, p.2.2.2.2.2.1, p.2.2.2.2.2.2.1, p.2.2.2.2.2.2.2.1, p.2.2.2.2.2.2.2.2.1, p.2.2.2.2.2.2.2.2.2⟩ : Orbit) p.1 x3;
    .ask (!x4.2)
    (
     .leaf (.inr (.inl 0), []))
    (
     let x5 := spec_l07Draw p.2.2.1 s.1;
     let x6 := spec_l07Draw p.2.2.1 x5.2;
     let x7 := spec_l07Draw p.2.2.1 x6.2;
     let x8 := fadd .f32 x4.1.Right x5.1;
     let x9 := fadd .f32 x4.1.Up x6.1;
     let x10 := fadd .f32 x4.1.Far x7.1;
     .need ((decide ((List.length s.2.2 + List.length [(⟨x4.1.Time, x8, x9, x10, x4.1.Weight⟩ : Look)]) * 20 ≤ 140737488355328) && decide (List.length s.2.2 + List.length [(⟨x4.1.Time, x8, x9, x10, x4.1.Weight⟩ : Look)] ≤ 9223372036854775807))) (
     let x11 := s.2.2 ++ [(⟨x4.1.Time, x8, x9, x10, x4.1.Weight⟩ : Look)];
     let x12 := IntKind.wrap .i64 (s.2.1 + 1);
     .leaf (.inl (x7.2, x12, x11), [0, 570]))))))))
  (
   .leaf (.inr (.inr ((s.1, s.2.2))), [1]))
def spec_NoisyLooks_loop0_L (p : Nat × List Nat × Nat × Int × Nat × Nat × Nat × Nat × Nat × Nat) : LoopS (Int × Int × List Look) ((Int) ⊕ (Int × List Look)) := { tl := fun s => [.junk, .flt .f32 p.1, .vslc 3 (.flt .f32) p.2.1, .flt .f32 p.2.2.1, .int .i64 s.1, .ptr 0 0, .junk, .junk, .junk, .junk, .junk, .junk, .junk, .own 1, .junk, .junk, .junk, .junk, .junk, .junk, .junk, .junk, .junk, .junk, .junk, .junk, .junk, .junk, .junk, .junk, .junk, .junk, .junk, .junk, .junk, .junk, .junk, .junk, .junk, .junk, .junk, .junk, .junk, .int .i64 p.2.2.2.1, .int .i64 s.2.1], hl := fun s => [some (.cells [.flt .f32 p.2.2.2.2.1, .flt .f32 p.2.2.2.2.2.1, .flt .f32 p.2.2.2.2.2.2.1, .flt .f32 p.2.2.2.2.2.2.2.1, .flt .f32 p.2.2.2.2.2.2.2.2.1, .flt .f32 p.2.2.2.2.2.2.2.2.2]), some (.typed 33 .look s.2.2)], ex := fun r => match r with | .inl r => .ret | .inr r => .exit 0, otl := fun r => match r with | .inl r => [.junk, .junk, .junk, .junk, .junk, .junk, .junk, .junk, .junk, .junk, .nils, .int .i64 r, .bool false] | .inr r => [.junk, .junk, .junk, .junk, .int .i64 r.1, .junk, .junk, .junk, .junk, .junk, .junk, .junk, .junk, .own 0], ohl := fun r => match r with | .inl r => [] | .inr r => [some (.typed 33 .look r.2)] }
def spec_NoisyLooks_loop0_ext : St → Option ((Nat × List Nat × Nat × Int × Nat × Nat × Nat × Nat × Nat × Nat) × (Int × Int × List Look) × List Nat) := fun S => match (S.tm 1).unK, (S.tm 2).unK, (S.tm 3).unK, (S.tm 4).unK, (S.tm 5).unK, (S.tm 13).unK, (S.tm 43).unK, (S.tm 44).unK with
  | .flt .f32 q0, .vslc 3 (.flt .f32) q1, .flt .f32 q2, .int .i64 q3, .ptr i0 0, .own i1, .int .i64 q4, .int .i64 q5 => (match S.hp i0 with
    | some (.cells [.flt .f32 q6, .flt .f32 q7, .flt .f32 q8, .flt .f32 q9, .flt .f32 q10, .flt .f32 q11]) => (match S.hp i1 with
    | some (.typed 33 .look q12) => (if nodup [i0, i1] = true then some ((q0, q1, q2, q4, q6, q7, q8, q9, q10, q11), (q3, q5, q12), [i0, i1]) else none)
    | _ => none)
    | _ => none)
  | _, _, _, _, _, _, _, _ => none
def spec_NoisyLooks_loop0_post (p : Nat × List Nat × Nat × Int × Nat × Nat × Nat × Nat × Nat × Nat) (r : (Int) ⊕ (Int × List Look)) : DT (Ex × St) := .ask (isL r) (.leaf (.ret, LSt [.junk, .junk, .junk, .junk, .junk, .junk, .junk, .junk, .junk, .junk, .nils, .int .i64 ((leftD r)), .bool false] [])) (.leaf (.exit 0, LSt [.junk, .junk, .junk, .junk, .int .i64 ((rightD r).1), .junk, .junk, .junk, .junk, .junk, .junk, .junk, .junk, .own 0] [some (.typed 33 .look ((rightD r).2))]))
def spec_NoisyLooks_loop0 (p : Nat × List Nat × Nat × Int × Nat × Nat × Nat × Nat × Nat × Nat) (s : Int × Int × List Look) : (Int) ⊕ (Int × List Look) := loopVal (spec_NoisyLooks_loop0_step p) s
def spec_NoisyLooks_loop0_ends (p : Nat × List Nat × Nat × Int × Nat × Nat × Nat × Nat × Nat × Nat) (s : Int × Int × List Look) : Bool := loopEnds (spec_NoisyLooks_loop0_step p) s
def spec_NoisyLooks_loop0_F : LoopF := loopF spec_NoisyLooks_loop0_step spec_NoisyLooks_loop0_ext spec_NoisyLooks_loop0_post
set_option maxRecDepth 100000 in
theorem spec_NoisyLooks_loop0_hext : ∀ S p s fl, spec_NoisyLooks_loop0_ext S = some (p, s, fl) → Norm S fl ((spec_NoisyLooks_loop0_L p).tl s) ((spec_NoisyLooks_loop0_L p).hl s) (spec_NoisyLooks_loop0_L p).gl := by
  intro S p s fl h
  unfold spec_NoisyLooks_loop0_ext at h
  (repeat' split at h) <;> first
    | (cases h; constructor <;> simp_all [spec_NoisyLooks_loop0_L, keepT, keepH, rens, renH, PV.ren, Blk.ren, fOf, lget, nodup, natIn, lenEq, gtm, PV.unK])
    | cases h
set_option maxRecDepth 100000 in
theorem spec_NoisyLooks_loop0_hpost : ∀ p r e S', (spec_NoisyLooks_loop0_post p r).get = some (e, S') → e = (spec_NoisyLooks_loop0_L p).ex r ∧ S' = LSt ((spec_NoisyLooks_loop0_L p).otl r) ((spec_NoisyLooks_loop0_L p).ohl r) ((spec_NoisyLooks_loop0_L p).ogl r) := by
  intro p r e S' h
  unfold spec_NoisyLooks_loop0_post at h
  cases r <;> (simp only [isL, DT.get, Option.some.injEq, Prod.mk.injEq] at h; exact ⟨h.1.symm, h.2.symm⟩)

def spec_NoisyLooks_loops : Nat → Option LoopF := loopTab [(5, spec_NoisyLooks_loop0_F)]
set_option maxRecDepth 100000 in
theorem spec_NoisyLooks_l0 : LoopOK Tryz.prog ⟨gam [(25, spec_l03Can_c), (76, spec_l02Least_c), (77, spec_l00In_c), (26, spec_l01Finite_c), (78, spec_l07At_c), (79, spec_l07Draw_c), (80, spec_l07Are_c)], tab, 109, spec_NoisyLooks_loops⟩ (lp Tryz.f37 0) :=
  loopOK_some (F := spec_NoisyLooks_loop0_F) (by kernel_rfl) (loopF_ok (E := ⟨gam [(25, spec_l03Can_c), (76, spec_l02Least_c), (77, spec_l00In_c), (26, spec_l01Finite_c), (78, spec_l07At_c), (79, spec_l07Draw_c), (80, spec_l07Are_c)], tab, 109, spec_NoisyLooks_loops⟩) ⟨gam_cons spec_l03Can_ok (gam_cons spec_l02Least_ok (gam_cons spec_l00In_ok (gam_cons spec_l01Finite_ok (gam_cons spec_l07At_ok (gam_cons spec_l07Draw_ok (gam_cons spec_l07Are_ok (gam_nil))))))), tab_ok, by kernel_rfl⟩ (fuel := 100000) (loopsOK_list (l := []) (by kernel_rfl) trivial) (L := spec_NoisyLooks_loop0_L) (fun p s => by unfold AgreeL; exact ⟨by kernel_rfl, by kernel_rfl⟩) (fun _ r h => by cases r <;> exact Ex.noConfusion h) spec_NoisyLooks_loop0_hext spec_NoisyLooks_loop0_hpost)
/-- loop.example/g01284/spec.NoisyLooks -/
def spec_NoisyLooks_tree (a0 : Orbit) (a1 : Nat) (a2 : List Nat) (a3 : Nat) (a4 : Int) : DT ((Int) ⊕ (List Look × Int)) :=
  let x0 := spec_l03Can (⟨a0.Long, a0.Round, a0.Tilt, a0.Node, a0.Peri, a0.Phase⟩ : Orbit) a1;
  .ask (!x0)
  (
   .leaf (.inl 0))
  (
   let x1 := ((List.length a2 : Nat) : Int);
   let x2 := decide (x1 > 24);
   .ask x2
   (
    .leaf (.inl 0))
   (
    let x3 := spec_l02Least a3;
    .ask (!x3)
    (
     .leaf (.inl 0))
    (
     let x4 := spec_l00In a4 0 2147483647;
     .ask (!x4)
     (
      .leaf (.inl 0))
     (
      let x5 := ((List.length a2 : Nat) : Int);
      .need ((spec_NoisyLooks_loop0_ends (a1, a2, a3, x5, a0.Long, a0.Round, a0.Tilt, a0.Node, a0.Peri, a0.Phase) (a4, 0, []))) (
      let x6 := spec_NoisyLooks_loop0 (a1, a2, a3, x5, a0.Long, a0.Round, a0.Tilt, a0.Node, a0.Peri, a0.Phase) (a4, 0, []);
      .ask ((isL x6))
      (
       .leaf (.inl ((leftD x6))))
      (
       .need ((spec_l07Are_need ((rightD x6).2))) (
       let x7 := spec_l07Are ((rightD x6).2);
       .ask (!x7)
       (
        .leaf (.inl 0))
       (
        .leaf (.inr ((rightD x6).2, (rightD x6).1))))))))))
def spec_NoisyLooks (a0 : Orbit) (a1 : Nat) (a2 : List Nat) (a3 : Nat) (a4 : Int) : (Int) ⊕ (List Look × Int) := (spec_NoisyLooks_tree a0 a1 a2 a3 a4).val
def spec_NoisyLooks_need (a0 : Orbit) (a1 : Nat) (a2 : List Nat) (a3 : Nat) (a4 : Int) : Bool := (spec_NoisyLooks_tree a0 a1 a2 a3 a4).ok
def spec_NoisyLooks_mk0 (p : Int) : Ret := ⟨.tup [.nils, .int .i64 p, .bool false], []⟩
def spec_NoisyLooks_mk1 (p : List Look × Int) : Ret := ⟨.tup [.own 0, .int .i64 p.2, .bool true], [.typed 33 .look p.1]⟩
def spec_NoisyLooks_mk : (Int) ⊕ (List Look × Int) → Ret := fun v => match v with
  | (.inl p) => spec_NoisyLooks_mk0 p
  | (.inr p) => spec_NoisyLooks_mk1 p
def spec_NoisyLooks_forms (v : (Int) ⊕ (List Look × Int)) : DT Ret := .ask (isL v) (.leaf (spec_NoisyLooks_mk0 (leftD v))) (.leaf (spec_NoisyLooks_mk1 (rightD v)))
theorem spec_NoisyLooks_forms_get : ∀ v, (spec_NoisyLooks_forms v).get = some (spec_NoisyLooks_mk v) := by
  intro v
  rcases v with v | v <;> rfl
def spec_NoisyLooks_c0 : Con := fun args => match args with
  | [.agg [.flt .f32 a0_0, .flt .f32 a0_1, .flt .f32 a0_2, .flt .f32 a0_3, .flt .f32 a0_4, .flt .f32 a0_5], .flt .f32 a1, .vslc 3 (.flt .f32) a2, .flt .f32 a3, .int .i64 a4] => some (.need (spec_NoisyLooks_need (⟨a0_0, a0_1, a0_2, a0_3, a0_4, a0_5⟩ : Orbit) a1 a2 a3 a4) (spec_NoisyLooks_forms (spec_NoisyLooks (⟨a0_0, a0_1, a0_2, a0_3, a0_4, a0_5⟩ : Orbit) a1 a2 a3 a4)))
  | _ => none
set_option maxRecDepth 100000 in
theorem spec_NoisyLooks_ok0 : FunOK Tryz.prog 37 spec_NoisyLooks_c0.fn := by
  refine con_ok (Γ := gam [(25, spec_l03Can_c), (76, spec_l02Least_c), (77, spec_l00In_c), (26, spec_l01Finite_c), (78, spec_l07At_c), (79, spec_l07Draw_c), (80, spec_l07Are_c)]) (gam_cons spec_l03Can_ok (gam_cons spec_l02Least_ok (gam_cons spec_l00In_ok (gam_cons spec_l01Finite_ok (gam_cons spec_l07At_ok (gam_cons spec_l07Draw_ok (gam_cons spec_l07Are_ok (gam_nil)))))))) tab_ok (by kernel_rfl) Tryz.func37 (by kernel_rfl) (by kernel_rfl) Tryz.ntmps37 Tryz.results37 (loops := spec_NoisyLooks_loops) (loopsOK_list (l := [lp Tryz.f37 0]) (by kernel_rfl) ⟨spec_NoisyLooks_l0, trivial⟩) 100000 fun args t h => ?_
  unfold spec_NoisyLooks_c0 at h
  split at h
  · rename_i a0_0 a0_1 a0_2 a0_3 a0_4 a0_5 a1 a2 a3 a4
    cases h
    exact ⟨rfl, agree_forms (mk := spec_NoisyLooks_mk) (t := spec_NoisyLooks_tree (⟨a0_0, a0_1, a0_2, a0_3, a0_4, a0_5⟩ : Orbit) a1 a2 a3 a4) (by unfold Agree; kernel_rfl) (fun h => h) (spec_NoisyLooks_forms_get _)⟩
  · cases h
def spec_NoisyLooks_c : Con := fun args => spec_NoisyLooks_c0 (norms 0 [.none, .none, .slc (.flt .f32), .none, .none] args)
set_option maxRecDepth 100000 in
theorem spec_NoisyLooks_ok : FunOK Tryz.prog 37 spec_NoisyLooks_c.fn := con_norm [.none, .none, .slc (.flt .f32), .none, .none] spec_NoisyLooks_ok0

/-- a loop of spec_B10Looks -/
def spec_B10Looks_loop0_step (p : Nat × Nat × Nat × Nat × Nat × Nat × Nat × List Int) (s : Int × Int × Int × List Nat) : Round (Int × Int × Int × List Nat) (Int × Int × List Nat) :=
  let x0 := decide (s.1 > 0);
  .ask x0
  (
   .need ((spec_l00Src_pick_need p.2.2.2.2.2.2.2 s.2.1 s.2.2.1 17)) (
   let x1 := spec_l00Src_pick p.2.2.2.2.2.2.2 s.2.1 s.2.2.1 17;
   let x2 := fofInt .f32 x1.1;
   let x3 := fdiv .f32 x2 1082130432;
   .need ((decide ((List.length s.2.2.2 + List.length [x3]) * 4 ≤ 140737488355328) && decide (List.length s.2.2.2 + List.length [x3] ≤ 9223372036854775807))) (
   let x4 := s.2.2.2 ++ [x3];
   let x5 := IntKind.wrap .i64 (s.1 - 1);
   .leaf (.inl (x5, x1.2.1, x1.2.2, x4), [0, 1, 67]))))
  (
   .leaf (.inr (s.2.1, s.2.2.1, s.2.2.2), [0, 1, 2]))
def spec_B10Looks_loop0_L (p : Nat × Nat × Nat × Nat × Nat × Nat × Nat × List Int) : LoopS (Int × Int × Int × List Nat) (Int × Int × List Nat) := { tl := fun s => [.junk, .junk, .flt .f32 p.1, .junk, .ptr 0 0, .junk, .junk, .junk, .ptr 1 0, .own 2, .int .i64 s.1], hl := fun s => [some (.cells [.flt .f32 p.2.1, .flt .f32 p.2.2.1, .flt .f32 p.2.2.2.1, .flt .f32 p.2.2.2.2.1, .flt .f32 p.2.2.2.2.2.1, .flt .f32 p.2.2.2.2.2.2.1]), some (.cells [.vslc 1 (.int .u8) p.2.2.2.2.2.2.2, .int .i64 s.2.1, .int .u64 s.2.2.1]), some (.typed 24 (.flt .f32) s.2.2.2)], ex := fun r => .exit 0, otl := fun r => [.junk, .junk, .flt .f32 p.1, .junk, .ptr 0 0, .junk, .junk, .junk, .ptr 1 0, .own 2], ohl := fun r => [some (.cells [.flt .f32 p.2.1, .flt .f32 p.2.2.1, .flt .f32 p.2.2.2.1, .flt .f32 p.2.2.2.2.1, .flt .f32 p.2.2.2.2.2.1, .flt .f32 p.2.2.2.2.2.2.1]), some (.cells [.vslc 1 (.int .u8) p.2.2.2.2.2.2.2, .int .i64 r.1, .int .u64 r.2.1]), some (.typed 24 (.flt .f32) r.2.2)] }
def spec_B10Looks_loop0_ext : St → Option ((Nat × Nat × Nat × Nat × Nat × Nat × Nat × List Int) × (Int × Int × Int × List Nat) × List Nat) := fun S => match (S.tm 2).unK, (S.tm 4).unK, (S.tm 8).unK, (S.tm 9).unK, (S.tm 10).unK with
  | .flt .f32 q0, .ptr i0 0, .ptr i1 0, .own i2, .int .i64 q1 => (match S.hp i0 with
    | some (.cells [.flt .f32 q2, .flt .f32 q3, .flt .f32 q4, .flt .f32 q5, .flt .f32 q6, .flt .f32 q7]) => (match S.hp i1 with
    | some (.cells [.vslc 1 (.int .u8) q8, .int .i64 q9, .int .u64 q10]) => (match S.hp i2 with
    | some (.typed 24 (.flt .f32) q11) => (if nodup [i0, i1, i2] = true then some ((q0, q2, q3, q4, q5, q6, q7, q8), (q1, q9, q10, q11), [i0, i1, i2]) else none)
    | _ => none)
    | _ => none)
    | _ => none)
  | _, _, _, _, _ => none
def spec_B10Looks_loop0_post (p : Nat × Nat × Nat × Nat × Nat × Nat × Nat × List Int) (r : Int × Int × List Nat) : DT (Ex × St) := .leaf (.exit 0, LSt [.junk, .junk, .flt .f32 p.1, .junk, .ptr 0 0, .junk, .junk, .junk, .ptr 1 0, .own 2] [some (.cells [.flt .f32 p.2.1, .flt .f32 p.2.2.1, .flt .f32 p.2.2.2.1, .flt .f32 p.2.2.2.2.1, .flt .f32 p.2.2.2.2.2.1, .flt .f32 p.2.2.2.2.2.2.1]), some (.cells [.vslc 1 (.int .u8) p.2.2.2.2.2.2.2, .int .i64 r.1, .int .u64 r.2.1]), some (.typed 24 (.flt .f32) r.2.2)])
def spec_B10Looks_loop0 (p : Nat × Nat × Nat × Nat × Nat × Nat × Nat × List Int) (s : Int × Int × Int × List Nat) : Int × Int × List Nat := loopVal (spec_B10Looks_loop0_step p) s
def spec_B10Looks_loop0_ends (p : Nat × Nat × Nat × Nat × Nat × Nat × Nat × List Int) (s : Int × Int × Int × List Nat) : Bool := loopEnds (spec_B10Looks_loop0_step p) s
def spec_B10Looks_loop0_F : LoopF := loopF spec_B10Looks_loop0_step spec_B10Looks_loop0_ext spec_B10Looks_loop0_post
set_option maxRecDepth 100000 in
theorem spec_B10Looks_loop0_hext : ∀ S p s fl, spec_B10Looks_loop0_ext S = some (p, s, fl) → Norm S fl ((spec_B10Looks_loop0_L p).tl s) ((spec_B10Looks_loop0_L p).hl s) (spec_B10Looks_loop0_L p).gl := by
  intro S p s fl h
  unfold spec_B10Looks_loop0_ext at h
  (repeat' split at h) <;> first
    | (cases h; constructor <;> simp_all [spec_B10Looks_loop0_L, keepT, keepH, rens, renH, PV.ren, Blk.ren, fOf, lget, nodup, natIn, lenEq, gtm, PV.unK])
    | cases h
set_option maxRecDepth 100000 in
theorem spec_B10Looks_loop0_hpost : ∀ p r e S', (spec_B10Looks_loop0_post p r).get = some (e, S') → e = (spec_B10Looks_loop0_L p).ex r ∧ S' = LSt ((spec_B10Looks_loop0_L p).otl r) ((spec_B10Looks_loop0_L p).ohl r) ((spec_B10Looks_loop0_L p).ogl r) := by
  intro p r e S' h
  unfold spec_B10Looks_loop0_post at h
  simp only [DT.get, Option.some.injEq, Prod.mk.injEq] at h; exact ⟨h.1.symm, h.2.symm⟩

def spec_B10Looks_loops : Nat → Option LoopF := loopTab [(4, spec_B10Looks_loop0_F)]
set_option maxRecDepth 100000 in
theorem spec_B10Looks_l0 : LoopOK Tryz.prog ⟨gam [(37, spec_NoisyLooks_c)] [] [(24, spec_l00Src_pick_M)] [(22, spec_l00From_M)], tab, 42, spec_B10Looks_loops⟩ (lp Tryz.f14 0) :=
  loopOK_some (F := spec_B10Looks_loop0_F) (by kernel_rfl) (loopF_ok (E := ⟨gam [(37, spec_NoisyLooks_c)] [] [(24, spec_l00Src_pick_M)] [(22, spec_l00From_M)], tab, 42, spec_B10Looks_loops⟩) ⟨gam_cons spec_NoisyLooks_ok (gam_box spec_l00Src_pick_ok (gam_new spec_l00From_ok (gam_nil))), tab_ok, by kernel_rfl⟩ (fuel := 100000) (loopsOK_list (l := []) (by kernel_rfl) trivial) (L := spec_B10Looks_loop0_L) (fun p s => by unfold AgreeL; exact ⟨by kernel_rfl, by kernel_rfl⟩) (fun _ _ h => Ex.noConfusion h) spec_B10Looks_loop0_hext spec_B10Looks_loop0_hpost)
/-- loop.example/g01284/spec.B10Looks -/
def spec_B10Looks_tree (a0 : List Int) (a1 : Orbit) (a2 : Nat) : DT ((Unit) ⊕ (List Look)) :=
  .need ((spec_l00Src_pick_need a0 0 0 4)) (
  let x0 := spec_l00Src_pick a0 0 0 4;
  .need ((spec_B10Looks_loop0_ends (a2, a1.Long, a1.Round, a1.Tilt, a1.Node, a1.Peri, a1.Phase, a0) (x0.1, x0.2.1, x0.2.2, []))) (
  let x1 := spec_B10Looks_loop0 (a2, a1.Long, a1.Round, a1.Tilt, a1.Node, a1.Peri, a1.Phase, a0) (x0.1, x0.2.1, x0.2.2, []);
  .need ((spec_l00Src_pick_need a0 x1.1 x1.2.1 65536)) (
  let x2 := spec_l00Src_pick a0 x1.1 x1.2.1 65536;
  .need ((spec_NoisyLooks_need (⟨a1.Long, a1.Round, a1.Tilt, a1.Node, a1.Peri, a1.Phase⟩ : Orbit) a2 x1.2.2 1015021568 x2.1)) (
  let x3 := spec_NoisyLooks (⟨a1.Long, a1.Round, a1.Tilt, a1.Node, a1.Peri, a1.Phase⟩ : Orbit) a2 x1.2.2 1015021568 x2.1;
  .ask ((isL x3))
  (
   .leaf (.inl ()))
  (
   .leaf (.inr ((rightD x3).1)))))))
def spec_B10Looks (a0 : List Int) (a1 : Orbit) (a2 : Nat) : (Unit) ⊕ (List Look) := (spec_B10Looks_tree a0 a1 a2).val
def spec_B10Looks_need (a0 : List Int) (a1 : Orbit) (a2 : Nat) : Bool := (spec_B10Looks_tree a0 a1 a2).ok
def spec_B10Looks_mk0 (p : Unit) : Ret := ⟨.tup [.nils, .bool false], []⟩
def spec_B10Looks_mk1 (p : List Look) : Ret := ⟨.tup [.own 0, .bool true], [.typed 33 .look p]⟩
def spec_B10Looks_mk : (Unit) ⊕ (List Look) → Ret := fun v => match v with
  | (.inl p) => spec_B10Looks_mk0 p
  | (.inr p) => spec_B10Looks_mk1 p
def spec_B10Looks_forms (v : (Unit) ⊕ (List Look)) : DT Ret := .ask (isL v) (.leaf (spec_B10Looks_mk0 (leftD v))) (.leaf (spec_B10Looks_mk1 (rightD v)))
theorem spec_B10Looks_forms_get : ∀ v, (spec_B10Looks_forms v).get = some (spec_B10Looks_mk v) := by
  intro v
  rcases v with v | v <;> rfl
def spec_B10Looks_c0 : Con := fun args => match args with
  | [.vslc 1 (.int .u8) a0, .agg [.flt .f32 a1_0, .flt .f32 a1_1, .flt .f32 a1_2, .flt .f32 a1_3, .flt .f32 a1_4, .flt .f32 a1_5], .flt .f32 a2] => some (.need (spec_B10Looks_need a0 (⟨a1_0, a1_1, a1_2, a1_3, a1_4, a1_5⟩ : Orbit) a2) (spec_B10Looks_forms (spec_B10Looks a0 (⟨a1_0, a1_1, a1_2, a1_3, a1_4, a1_5⟩ : Orbit) a2)))
  | _ => none
set_option maxRecDepth 100000 in
theorem spec_B10Looks_ok0 : FunOK Tryz.prog 14 spec_B10Looks_c0.fn := by
  refine con_ok (Γ := gam [(37, spec_NoisyLooks_c)] [] [(24, spec_l00Src_pick_M)] [(22, spec_l00From_M)]) (gam_cons spec_NoisyLooks_ok (gam_box spec_l00Src_pick_ok (gam_new spec_l00From_ok (gam_nil)))) tab_ok (by kernel_rfl) Tryz.func14 (by kernel_rfl) (by kernel_rfl) Tryz.ntmps14 Tryz.results14 (loops := spec_B10Looks_loops) (loopsOK_list (l := [lp Tryz.f14 0]) (by kernel_rfl) ⟨spec_B10Looks_l0, trivial⟩) 100000 fun args t h => ?_
  unfold spec_B10Looks_c0 at h
  split at h
  · rename_i a0 a1_0 a1_1 a1_2 a1_3 a1_4 a1_5 a2
    cases h
    exact ⟨rfl, agree_forms (mk := spec_B10Looks_mk) (t := spec_B10Looks_tree a0 (⟨a1_0, a1_1, a1_2, a1_3, a1_4, a1_5⟩ : Orbit) a2) (by unfold Agree; kernel_rfl) (fun h => h) (spec_B10Looks_forms_get _)⟩
  · cases h
def spec_B10Looks_c : Con := fun args => spec_B10Looks_c0 (norms 0 [.slc (.int .u8), .none, .none] args)
set_option maxRecDepth 100000 in
theorem spec_B10Looks_ok : FunOK Tryz.prog 14 spec_B10Looks_c.fn := con_norm [.slc (.int .u8), .none, .none] spec_B10Looks_ok0

/-- (loop.example/g01284/impl.misses).inner -/
def impl_misses_inner_tree (a0_0 : Nat) (a0_1 : Nat) (a0_2 : Nat) (a1_0 : Nat) (a1_1 : Nat) (a1_2 : Nat) : DT (Nat) :=
  .skip (
  .skip (
  let x0 := fmul .f32 a0_0 a1_0;
  .skip (
  .skip (
  let x1 := fmul .f32 a0_1 a1_1;
  let x2 := fadd .f32 x0 x1;
  .skip (
  .skip (
  let x3 := fmul .f32 a0_2 a1_2;
  let x4 := fadd .f32 x2 x3;
  .leaf x4))))))
def impl_misses_inner (a0_0 : Nat) (a0_1 : Nat) (a0_2 : Nat) (a1_0 : Nat) (a1_1 : Nat) (a1_2 : Nat) : Nat := (impl_misses_inner_tree a0_0 a0_1 a0_2 a1_0 a1_1 a1_2).val
def impl_misses_inner_mk (p : Nat) : Ret := ⟨.flt .f32 p, []⟩
def impl_misses_inner_c : Con := fun args => match args with
  | [.agg [.flt .f32 a0_0, .flt .f32 a0_1, .flt .f32 a0_2], .agg [.flt .f32 a1_0, .flt .f32 a1_1, .flt .f32 a1_2]] => some (.leaf (impl_misses_inner_mk (impl_misses_inner a0_0 a0_1 a0_2 a1_0 a1_1 a1_2)))
  | _ => none
set_option maxRecDepth 100000 in
theorem impl_misses_inner_ok : FunOK Tryz.prog 83 impl_misses_inner_c.fn := by
  refine con_ok (Γ := gam []) (gam_nil) tab_ok (by kernel_rfl) Tryz.func83 (by kernel_rfl) (by kernel_rfl) Tryz.ntmps83 Tryz.results83 (loopsOK_none rfl _) 100000 fun args t h => ?_
  unfold impl_misses_inner_c at h
  split at h
  · rename_i a0_0 a0_1 a0_2 a1_0 a1_1 a1_2
    cases h
    exact ⟨rfl, agree_tot (mk := impl_misses_inner_mk) (t := impl_misses_inner_tree a0_0 a0_1 a0_2 a1_0 a1_1 a1_2) (by unfold Agree; kernel_rfl) (by kernel_rfl)⟩
  · cases h

/-- a loop of impl_weighedOf -/
def impl_weighedOf_loop0_step (p : Nat × List Look × Int × Nat × Nat × Nat × Nat × Nat × Nat) (s : Int × List Nat) : Round (Int × List Nat) ((Unit) ⊕ (List Nat)) :=
  let x0 := decide (s.1 < p.2.2.1);
  .ask x0
  (
   .need ((decide (0 ≤ s.1) && decide (s.1 < ((List.length p.2.1 : Nat) : Int)))) (
   let x1 := List.getD p.2.1 (Int.toNat s.1) default;
   .need ((impl_miss_need (⟨p.2.2.2.1, p.2.2.2.2.1, p.2.2.2.2.2.1, p.2.2.2.2.2.2.1, p.2.2.2.2.2.2.2.1, p.2.2.2.2.2.2.2.2⟩ : Orbit) p.1 (⟨x1.Time, x1.Right, x1.Up, x1.Far, x1.Weight⟩ : Look))) (
   let x2 := impl_miss (⟨p.2.2.2.1, p.2.2.2.2.1, p.2.2.2.2.2.1, p.2.2.2.2.2.2.1, p.2.2.2.2.2.2.2.1, p.2.2.2.2.2.2.2.2⟩ : Orbit) p.1 (⟨x1.Time, x1.Right, x1.Up, x1.Far, x1.Weight⟩ : Look);
   .ask (!x2.2.2.2)
   (
    .leaf (.inr (.inl ()), []))
   (
    let x3 := impl_misses_inner x2.1 x2.2.1 x2.2.2.1 x2.1 x2.2.1 x2.2.2.1;
    let x4 := fmul .f32 x1.Weight x3;
    .need ((decide ((List.length s.2 + List.length [x4]) * 4 ≤ 140737488355328) && decide (List.length s.2 + List.length [x4] ≤ 9223372036854775807))) (
    let x5 := s.2 ++ [x4];
    let x6 := IntKind.wrap .i64 (s.1 + 1);
    .leaf (.inl (x6, x5), [0, 202]))))))
  (
   .leaf (.inr (.inr s.2), [1]))
def impl_weighedOf_loop0_L (p : Nat × List Look × Int × Nat × Nat × Nat × Nat × Nat × Nat) : LoopS (Int × List Nat) ((Unit) ⊕ (List Nat)) := { tl := fun s => [.junk, .flt .f32 p.1, .junk, .ptr 0 0, .junk, .junk, .junk, .junk, .own 1, .junk, .junk, .junk, .junk, .junk, .junk, .junk, .junk, .junk, .junk, .junk, .junk, .junk, .junk, .junk, .junk, .junk, .junk, .vslc 3 .look p.2.1, .int .i64 p.2.2.1, .int .i64 s.1], hl := fun s => [some (.cells [.flt .f32 p.2.2.2.1, .flt .f32 p.2.2.2.2.1, .flt .f32 p.2.2.2.2.2.1, .flt .f32 p.2.2.2.2.2.2.1, .flt .f32 p.2.2.2.2.2.2.2.1, .flt .f32 p.2.2.2.2.2.2.2.2]), some (.typed 24 (.flt .f32) s.2)], ex := fun r => match r with | .inl r => .ret | .inr r => .exit 0, otl := fun r => match r with | .inl r => [.junk, .junk, .junk, .junk, .junk, .junk, .nils, .bool false] | .inr r => [.junk, .junk, .junk, .junk, .junk, .junk, .junk, .junk, .own 0], ohl := fun r => match r with | .inl r => [] | .inr r => [some (.typed 24 (.flt .f32) r)] }
def impl_weighedOf_loop0_ext : St → Option ((Nat × List Look × Int × Nat × Nat × Nat × Nat × Nat × Nat) × (Int × List Nat) × List Nat) := fun S => match (S.tm 1).unK, (S.tm 3).unK, (S.tm 8).unK, (S.tm 27).unK, (S.tm 28).unK, (S.tm 29).unK with
  | .flt .f32 q0, .ptr i0 0, .own i1, .vslc 3 .look q1, .int .i64 q2, .int .i64 q3 => (match S.hp i0 with
    | some (.cells [.flt .f32 q4, .flt .f32 q5, .flt .f32 q6, .flt .f32 q7, .flt .f32 q8, .flt .f32 q9]) => (match S.hp i1 with
    | some (.typed 24 (.flt .f32) q10) => (if nodup [i0, i1] = true then some ((q0, q1, q2, q4, q5, q6, q7, q8, q9), (q3, q10), [i0, i1]) else none)
    | _ => none)
    | _ => none)
  | _, _, _, _, _, _ => none
def impl_weighedOf_loop0_post (p : Nat × List Look × Int × Nat × Nat × Nat × Nat × Nat × Nat) (r : (Unit) ⊕ (List Nat)) : DT (Ex × St) := .ask (isL r) (.leaf (.ret, LSt [.junk, .junk, .junk, .junk, .junk, .junk, .nils, .bool false] [])) (.leaf (.exit 0, LSt [.junk, .junk, .junk, .junk, .junk, .junk, .junk, .junk, .own 0] [some (.typed 24 (.flt .f32) ((rightD r)))]))
def impl_weighedOf_loop0 (p : Nat × List Look × Int × Nat × Nat × Nat × Nat × Nat × Nat) (s : Int × List Nat) : (Unit) ⊕ (List Nat) := loopVal (impl_weighedOf_loop0_step p) s
def impl_weighedOf_loop0_ends (p : Nat × List Look × Int × Nat × Nat × Nat × Nat × Nat × Nat) (s : Int × List Nat) : Bool := loopEnds (impl_weighedOf_loop0_step p) s
def impl_weighedOf_loop0_F : LoopF := loopF impl_weighedOf_loop0_step impl_weighedOf_loop0_ext impl_weighedOf_loop0_post
set_option maxRecDepth 100000 in
theorem impl_weighedOf_loop0_hext : ∀ S p s fl, impl_weighedOf_loop0_ext S = some (p, s, fl) → Norm S fl ((impl_weighedOf_loop0_L p).tl s) ((impl_weighedOf_loop0_L p).hl s) (impl_weighedOf_loop0_L p).gl := by
  intro S p s fl h
  unfold impl_weighedOf_loop0_ext at h
  (repeat' split at h) <;> first
    | (cases h; constructor <;> simp_all [impl_weighedOf_loop0_L, keepT, keepH, rens, renH, PV.ren, Blk.ren, fOf, lget, nodup, natIn, lenEq, gtm, PV.unK])
    | cases h
set_option maxRecDepth 100000 in
theorem impl_weighedOf_loop0_hpost : ∀ p r e S', (impl_weighedOf_loop0_post p r).get = some (e, S') → e = (impl_weighedOf_loop0_L p).ex r ∧ S' = LSt ((impl_weighedOf_loop0_L p).otl r) ((impl_weighedOf_loop0_L p).ohl r) ((impl_weighedOf_loop0_L p).ogl r) := by
  intro p r e S' h
  unfold impl_weighedOf_loop0_post at h
  cases r <;> (simp only [isL, DT.get, Option.some.injEq, Prod.mk.injEq] at h; exact ⟨h.1.symm, h.2.symm⟩)

def impl_weighedOf_loops : Nat → Option LoopF := loopTab [(5, impl_weighedOf_loop0_F)]
set_option maxRecDepth 100000 in
theorem impl_weighedOf_l0 : LoopOK Tryz.prog ⟨gam [(81, impl_ValidOrbit_c), (82, impl_aLength_c), (19, impl_AreLooks_c), (34, impl_miss_c), (83, impl_misses_inner_c)], tab, 53, impl_weighedOf_loops⟩ (lp Tryz.f38 0) :=
  loopOK_some (F := impl_weighedOf_loop0_F) (by kernel_rfl) (loopF_ok (E := ⟨gam [(81, impl_ValidOrbit_c), (82, impl_aLength_c), (19, impl_AreLooks_c), (34, impl_miss_c), (83, impl_misses_inner_c)], tab, 53, impl_weighedOf_loops⟩) ⟨gam_cons impl_ValidOrbit_ok (gam_cons impl_aLength_ok (gam_cons impl_AreLooks_ok (gam_cons impl_miss_ok (gam_cons impl_misses_inner_ok (gam_nil))))), tab_ok, by kernel_rfl⟩ (fuel := 100000) (loopsOK_list (l := []) (by kernel_rfl) trivial) (L := impl_weighedOf_loop0_L) (fun p s => by unfold AgreeL; exact ⟨by kernel_rfl, by kernel_rfl⟩) (fun _ r h => by cases r <;> exact Ex.noConfusion h) impl_weighedOf_loop0_hext impl_weighedOf_loop0_hpost)
/-- loop.example/g01284/impl.weighedOf -/
def impl_weighedOf_tree (a0 : Orbit) (a1 : Nat) (a2 : List Look) : DT ((Unit) ⊕ (List Nat)) :=
  .need ((impl_ValidOrbit_need (⟨a0.Long, a0.Round, a0.Tilt, a0.Node, a0.Peri, a0.Phase⟩ : Orbit))) (
  let x0 := impl_ValidOrbit (⟨a0.Long, a0.Round, a0.Tilt, a0.Node, a0.Peri, a0.Phase⟩ : Orbit);
  .ask (!x0)
  (
   .leaf (.inl ()))
  (
   .need ((impl_aLength_need a1)) (
   let x1 := impl_aLength a1;
   .ask (!x1)
   (
    .leaf (.inl ()))
   (
    .need ((impl_AreLooks_need a2)) (
    let x2 := impl_AreLooks a2;
    .ask (!x2)
    (
     .leaf (.inl ()))
    (
     let x3 := ((List.length a2 : Nat) : Int);
     .need ((impl_weighedOf_loop0_ends (a1, a2, x3, a0.Long, a0.Round, a0.Tilt, a0.Node, a0.Peri, a0.Phase) (0, []))) (
     let x4 := impl_weighedOf_loop0 (a1, a2, x3, a0.Long, a0.Round, a0.Tilt, a0.Node, a0.Peri, a0.Phase) (0, []);
     .ask ((isL x4))
     (
      .leaf (.inl ()))
     (
      .leaf (.inr ((rightD x4)))))))))))
def impl_weighedOf (a0 : Orbit) (a1 : Nat) (a2 : List Look) : (Unit) ⊕ (List Nat) := (impl_weighedOf_tree a0 a1 a2).val
def impl_weighedOf_need (a0 : Orbit) (a1 : Nat) (a2 : List Look) : Bool := (impl_weighedOf_tree a0 a1 a2).ok
def impl_weighedOf_mk0 (p : Unit) : Ret := ⟨.tup [.nils, .bool false], []⟩
def impl_weighedOf_mk1 (p : List Nat) : Ret := ⟨.tup [.own 0, .bool true], [.typed 24 (.flt .f32) p]⟩
def impl_weighedOf_mk : (Unit) ⊕ (List Nat) → Ret := fun v => match v with
  | (.inl p) => impl_weighedOf_mk0 p
  | (.inr p) => impl_weighedOf_mk1 p
def impl_weighedOf_forms (v : (Unit) ⊕ (List Nat)) : DT Ret := .ask (isL v) (.leaf (impl_weighedOf_mk0 (leftD v))) (.leaf (impl_weighedOf_mk1 (rightD v)))
theorem impl_weighedOf_forms_get : ∀ v, (impl_weighedOf_forms v).get = some (impl_weighedOf_mk v) := by
  intro v
  rcases v with v | v <;> rfl
def impl_weighedOf_c0 : Con := fun args => match args with
  | [.agg [.flt .f32 a0_0, .flt .f32 a0_1, .flt .f32 a0_2, .flt .f32 a0_3, .flt .f32 a0_4, .flt .f32 a0_5], .flt .f32 a1, .vslc 3 .look a2] => some (.need (impl_weighedOf_need (⟨a0_0, a0_1, a0_2, a0_3, a0_4, a0_5⟩ : Orbit) a1 a2) (impl_weighedOf_forms (impl_weighedOf (⟨a0_0, a0_1, a0_2, a0_3, a0_4, a0_5⟩ : Orbit) a1 a2)))
  | _ => none
set_option maxRecDepth 100000 in
theorem impl_weighedOf_ok0 : FunOK Tryz.prog 38 impl_weighedOf_c0.fn := by
  refine con_ok (Γ := gam [(81, impl_ValidOrbit_c), (82, impl_aLength_c), (19, impl_AreLooks_c), (34, impl_miss_c), (83, impl_misses_inner_c)]) (gam_cons impl_ValidOrbit_ok (gam_cons impl_aLength_ok (gam_cons impl_AreLooks_ok (gam_cons impl_miss_ok (gam_cons impl_misses_inner_ok (gam_nil)))))) tab_ok (by kernel_rfl) Tryz.func38 (by kernel_rfl) (by kernel_rfl) Tryz.ntmps38 Tryz.results38 (loops := impl_weighedOf_loops) (loopsOK_list (l := [lp Tryz.f38 0]) (by kernel_rfl) ⟨impl_weighedOf_l0, trivial⟩) 100000 fun args t h => ?_
  unfold impl_weighedOf_c0 at h
  split at h
  · rename_i a0_0 a0_1 a0_2 a0_3 a0_4 a0_5 a1 a2
    cases h
    exact ⟨rfl, agree_forms (mk := impl_weighedOf_mk) (t := impl_weighedOf_tree (⟨a0_0, a0_1, a0_2, a0_3, a0_4, a0_5⟩ : Orbit) a1 a2) (by unfold Agree; kernel_rfl) (fun h => h) (impl_weighedOf_forms_get _)⟩
  · cases h
def impl_weighedOf_c : Con := fun args => impl_weighedOf_c0 (norms 0 [.none, .none, .slc .look] args)
set_option maxRecDepth 100000 in
theorem impl_weighedOf_ok : FunOK Tryz.prog 38 impl_weighedOf_c.fn := con_norm [.none, .none, .slc .look] impl_weighedOf_ok0

/-- loop.example/g01284/impl.told -/
def impl_told_tree (a0 : Nat) : DT (Nat × Bool) :=
  .need ((impl_IsFinite_need a0)) (
  let x0 := impl_IsFinite a0;
  .ask (!x0)
  (
   .leaf (0, false))
  (
   .leaf (a0, true)))
def impl_told (a0 : Nat) : Nat × Bool := (impl_told_tree a0).val
def impl_told_need (a0 : Nat) : Bool := (impl_told_tree a0).ok
def impl_told_mk (p : Nat × Bool) : Ret := ⟨.tup [.flt .f32 p.1, .bool p.2], []⟩
def impl_told_c : Con := fun args => match args with
  | [.flt .f32 a0] => some (.need (impl_told_need a0) (.leaf (impl_told_mk (impl_told a0))))
  | _ => none
set_option maxRecDepth 100000 in
theorem impl_told_ok : FunOK Tryz.prog 39 impl_told_c.fn := by
  refine con_ok (Γ := gam [(40, impl_IsFinite_c)]) (gam_cons impl_IsFinite_ok (gam_nil)) tab_ok (by kernel_rfl) Tryz.func39 (by kernel_rfl) (by kernel_rfl) Tryz.ntmps39 Tryz.results39 (loopsOK_none rfl _) 100000 fun args t h => ?_
  unfold impl_told_c at h
  split at h
  · rename_i a0
    cases h
    exact ⟨rfl, agree_need (mk := impl_told_mk) (t := impl_told_tree a0) (by unfold Agree; kernel_rfl)⟩
  · cases h

/-- a loop of impl_SquareOfMisses -/
def impl_SquareOfMisses_loop0_step (p : Int × List Nat) (s : Nat × Int) : Round (Nat × Int) (Nat) :=
  let x0 := decide (s.2 < p.1);
  .ask x0
  (
   .need ((decide (0 ≤ s.2) && decide (s.2 < ((List.length p.2 : Nat) : Int)))) (
   .need ((decide ((Int.toNat s.2) < List.length p.2))) (
   let x1 := List.getD p.2 (Int.toNat s.2) default;
   let x2 := fadd .f32 s.1 x1;
   let x3 := IntKind.wrap .i64 (s.2 + 1);
   .leaf (.inl (x2, x3), [0]))))
  (
   .leaf (.inr s.1, []))
def impl_SquareOfMisses_loop0_L (p : Int × List Nat) : LoopS (Nat × Int) (Nat) := { tl := fun s => [.junk, .junk, .junk, .junk, .junk, .junk, .junk, .junk, .junk, .junk, .flt .f32 s.1, .junk, .junk, .junk, .junk, .junk, .junk, .junk, .junk, .junk, .junk, .junk, .own 0, .int .i64 p.1, .int .i64 s.2], hl := fun s => [some (.typed 24 (.flt .f32) p.2)], ex := fun r => .exit 0, otl := fun r => [.junk, .junk, .junk, .junk, .junk, .junk, .junk, .junk, .junk, .junk, .flt .f32 r], ohl := fun r => [] }
def impl_SquareOfMisses_loop0_ext : St → Option ((Int × List Nat) × (Nat × Int) × List Nat) := fun S => match (S.tm 10).unK, (S.tm 22).unK, (S.tm 23).unK, (S.tm 24).unK with
  | .flt .f32 q0, .own i0, .int .i64 q1, .int .i64 q2 => (match S.hp i0 with
    | some (.typed 24 (.flt .f32) q3) => some ((q1, q3), (q0, q2), [i0])
    | _ => none)
  | _, _, _, _ => none
def impl_SquareOfMisses_loop0_post (p : Int × List Nat) (r : Nat) : DT (Ex × St) := .leaf (.exit 0, LSt [.junk, .junk, .junk, .junk, .junk, .junk, .junk, .junk, .junk, .junk, .flt .f32 r] [])
def impl_SquareOfMisses_loop0 (p : Int × List Nat) (s : Nat × Int) : Nat := loopVal (impl_SquareOfMisses_loop0_step p) s
def impl_SquareOfMisses_loop0_ends (p : Int × List Nat) (s : Nat × Int) : Bool := loopEnds (impl_SquareOfMisses_loop0_step p) s
def impl_SquareOfMisses_loop0_F : LoopF := loopF impl_SquareOfMisses_loop0_step impl_SquareOfMisses_loop0_ext impl_SquareOfMisses_loop0_post
set_option maxRecDepth 100000 in
theorem impl_SquareOfMisses_loop0_hext : ∀ S p s fl, impl_SquareOfMisses_loop0_ext S = some (p, s, fl) → Norm S fl ((impl_SquareOfMisses_loop0_L p).tl s) ((impl_SquareOfMisses_loop0_L p).hl s) (impl_SquareOfMisses_loop0_L p).gl := by
  intro S p s fl h
  unfold impl_SquareOfMisses_loop0_ext at h
  (repeat' split at h) <;> first
    | (cases h; constructor <;> simp_all [impl_SquareOfMisses_loop0_L, keepT, keepH, rens, renH, PV.ren, Blk.ren, fOf, lget, nodup, natIn, lenEq, gtm, PV.unK])
    | cases h
set_option maxRecDepth 100000 in
theorem impl_SquareOfMisses_loop0_hpost : ∀ p r e S', (impl_SquareOfMisses_loop0_post p r).get = some (e, S') → e = (impl_SquareOfMisses_loop0_L p).ex r ∧ S' = LSt ((impl_SquareOfMisses_loop0_L p).otl r) ((impl_SquareOfMisses_loop0_L p).ohl r) ((impl_SquareOfMisses_loop0_L p).ogl r) := by
  intro p r e S' h
  unfold impl_SquareOfMisses_loop0_post at h
  simp only [DT.get, Option.some.injEq, Prod.mk.injEq] at h; exact ⟨h.1.symm, h.2.symm⟩

def impl_SquareOfMisses_loops : Nat → Option LoopF := loopTab [(6, impl_SquareOfMisses_loop0_F)]
set_option maxRecDepth 100000 in
theorem impl_SquareOfMisses_l0 : LoopOK Tryz.prog ⟨gam [(38, impl_weighedOf_c), (39, impl_told_c)], tab, 36, impl_SquareOfMisses_loops⟩ (lp Tryz.f15 0) :=
  loopOK_some (F := impl_SquareOfMisses_loop0_F) (by kernel_rfl) (loopF_ok (E := ⟨gam [(38, impl_weighedOf_c), (39, impl_told_c)], tab, 36, impl_SquareOfMisses_loops⟩) ⟨gam_cons impl_weighedOf_ok (gam_cons impl_told_ok (gam_nil)), tab_ok, by kernel_rfl⟩ (fuel := 100000) (loopsOK_list (l := []) (by kernel_rfl) trivial) (L := impl_SquareOfMisses_loop0_L) (fun p s => by unfold AgreeL; exact ⟨by kernel_rfl, by kernel_rfl⟩) (fun _ _ h => Ex.noConfusion h) impl_SquareOfMisses_loop0_hext impl_SquareOfMisses_loop0_hpost)
/-- loop.example/g01284/impl.SquareOfMisses -/
def impl_SquareOfMisses_tree (a0 : Orbit) (a1 : Nat) (a2 : List Look) : DT (Nat × Bool) :=
  .need ((impl_weighedOf_need (⟨a0.Long, a0.Round, a0.Tilt, a0.Node, a0.Peri, a0.Phase⟩ : Orbit) a1 a2)) (
  let x0 := impl_weighedOf (⟨a0.Long, a0.Round, a0.Tilt, a0.Node, a0.Peri, a0.Phase⟩ : Orbit) a1 a2;
  .ask ((isL x0))
  (
   .skip (
   .leaf (0, false)))
  (
   .skip (
   let x1 := ((List.length (rightD x0) : Nat) : Int);
   .need ((impl_SquareOfMisses_loop0_ends (x1, (rightD x0)) (0, 0))) (
   let x2 := impl_SquareOfMisses_loop0 (x1, (rightD x0)) (0, 0);
   .need ((impl_told_need x2)) (
   let x3 := impl_told x2;
   .leaf (x3.1, x3.2))))))
def impl_SquareOfMisses (a0 : Orbit) (a1 : Nat) (a2 : List Look) : Nat × Bool := (impl_SquareOfMisses_tree a0 a1 a2).val
def impl_SquareOfMisses_need (a0 : Orbit) (a1 : Nat) (a2 : List Look) : Bool := (impl_SquareOfMisses_tree a0 a1 a2).ok
def impl_SquareOfMisses_mk (p : Nat × Bool) : Ret := ⟨.tup [.flt .f32 p.1, .bool p.2], []⟩
def impl_SquareOfMisses_c0 : Con := fun args => match args with
  | [.agg [.flt .f32 a0_0, .flt .f32 a0_1, .flt .f32 a0_2, .flt .f32 a0_3, .flt .f32 a0_4, .flt .f32 a0_5], .flt .f32 a1, .vslc 3 .look a2] => some (.need (impl_SquareOfMisses_need (⟨a0_0, a0_1, a0_2, a0_3, a0_4, a0_5⟩ : Orbit) a1 a2) (.leaf (impl_SquareOfMisses_mk (impl_SquareOfMisses (⟨a0_0, a0_1, a0_2, a0_3, a0_4, a0_5⟩ : Orbit) a1 a2))))
  | _ => none
set_option maxRecDepth 100000 in
theorem impl_SquareOfMisses_ok0 : FunOK Tryz.prog 15 impl_SquareOfMisses_c0.fn := by
  refine con_ok (Γ := gam [(38, impl_weighedOf_c), (39, impl_told_c)]) (gam_cons impl_weighedOf_ok (gam_cons impl_told_ok (gam_nil))) tab_ok (by kernel_rfl) Tryz.func15 (by kernel_rfl) (by kernel_rfl) Tryz.ntmps15 Tryz.results15 (loops := impl_SquareOfMisses_loops) (loopsOK_list (l := [lp Tryz.f15 0]) (by kernel_rfl) ⟨impl_SquareOfMisses_l0, trivial⟩) 100000 fun args t h => ?_
  unfold impl_SquareOfMisses_c0 at h
  split at h
  · rename_i a0_0 a0_1 a0_2 a0_3 a0_4 a0_5 a1 a2
    cases h
    exact ⟨rfl, agree_need (mk := impl_SquareOfMisses_mk) (t := impl_SquareOfMisses_tree (⟨a0_0, a0_1, a0_2, a0_3, a0_4, a0_5⟩ : Orbit) a1 a2) (by unfold Agree; kernel_rfl)⟩
  · cases h
def impl_SquareOfMisses_c : Con := fun args => impl_SquareOfMisses_c0 (norms 0 [.none, .none, .slc .look] args)
set_option maxRecDepth 100000 in
theorem impl_SquareOfMisses_ok : FunOK Tryz.prog 15 impl_SquareOfMisses_c.fn := con_norm [.none, .none, .slc .look] impl_SquareOfMisses_ok0

/-- a loop of impl_WorstLook -/
def impl_WorstLook_loop0_step (p : Int × List Nat) (s : Int × Int) : Round (Int × Int) (Int) :=
  let x0 := decide (s.2 < p.1);
  .ask x0
  (
   .need ((decide (0 ≤ s.2) && decide (s.2 < ((List.length p.2 : Nat) : Int)))) (
   .need ((decide ((Int.toNat s.2) < List.length p.2))) (
   let x1 := List.getD p.2 (Int.toNat s.2) default;
   .need ((decide (0 ≤ s.1) && decide (s.1 < ((List.length p.2 : Nat) : Int)))) (
   .need ((decide ((Int.toNat s.1) < List.length p.2))) (
   let x2 := List.getD p.2 (Int.toNat s.1) default;
   let x3 := fgt .f32 x1 x2;
   .ask x3
   (
    let x4 := IntKind.wrap .i64 (s.2 + 1);
    .leaf (.inl (s.2, x4), [0]))
   (
    let x4 := IntKind.wrap .i64 (s.2 + 1);
    .leaf (.inl (s.1, x4), [0])))))))
  (
   .leaf (.inr s.1, [0]))
def impl_WorstLook_loop0_L (p : Int × List Nat) : LoopS (Int × Int) (Int) := { tl := fun s => [.junk, .junk, .junk, .junk, .junk, .junk, .junk, .junk, .junk, .own 0, .junk, .int .i64 s.1, .junk, .junk, .junk, .junk, .junk, .junk, .junk, .junk, .junk, .junk, .junk, .junk, .junk, .junk, .junk, .junk, .own 0, .int .i64 p.1, .int .i64 s.2], hl := fun s => [some (.typed 24 (.flt .f32) p.2)], ex := fun r => .exit 0, otl := fun r => [.junk, .junk, .junk, .junk, .junk, .junk, .junk, .junk, .junk, .own 0, .junk, .int .i64 r], ohl := fun r => [some (.typed 24 (.flt .f32) p.2)] }
def impl_WorstLook_loop0_ext : St → Option ((Int × List Nat) × (Int × Int) × List Nat) := fun S => match (S.tm 9).unK, (S.tm 11).unK, (S.tm 28).unK, (S.tm 29).unK, (S.tm 30).unK with
  | .own i0, .int .i64 q0, .own d0x0, .int .i64 q1, .int .i64 q2 => (if d0x0 = i0 then (match S.hp i0 with
    | some (.typed 24 (.flt .f32) q3) => some ((q1, q3), (q0, q2), [i0])
    | _ => none) else none)
  | _, _, _, _, _ => none
def impl_WorstLook_loop0_post (p : Int × List Nat) (r : Int) : DT (Ex × St) := .leaf (.exit 0, LSt [.junk, .junk, .junk, .junk, .junk, .junk, .junk, .junk, .junk, .own 0, .junk, .int .i64 r] [some (.typed 24 (.flt .f32) p.2)])
def impl_WorstLook_loop0 (p : Int × List Nat) (s : Int × Int) : Int := loopVal (impl_WorstLook_loop0_step p) s
def impl_WorstLook_loop0_ends (p : Int × List Nat) (s : Int × Int) : Bool := loopEnds (impl_WorstLook_loop0_step p) s
def impl_WorstLook_loop0_F : LoopF := loopF impl_WorstLook_loop0_step impl_WorstLook_loop0_ext impl_WorstLook_loop0_post
set_option maxRecDepth 100000 in
theorem impl_WorstLook_loop0_hext : ∀ S p s fl, impl_WorstLook_loop0_ext S = some (p, s, fl) → Norm S fl ((impl_WorstLook_loop0_L p).tl s) ((impl_WorstLook_loop0_L p).hl s) (impl_WorstLook_loop0_L p).gl := by
  intro S p s fl h
  unfold impl_WorstLook_loop0_ext at h
  (repeat' split at h) <;> first
    | (cases h; constructor <;> simp_all [impl_WorstLook_loop0_L, keepT, keepH, rens, renH, PV.ren, Blk.ren, fOf, lget, nodup, natIn, lenEq, gtm, PV.unK])
    | cases h
set_option maxRecDepth 100000 in
theorem impl_WorstLook_loop0_hpost : ∀ p r e S', (impl_WorstLook_loop0_post p r).get = some (e, S') → e = (impl_WorstLook_loop0_L p).ex r ∧ S' = LSt ((impl_WorstLook_loop0_L p).otl r) ((impl_WorstLook_loop0_L p).ohl r) ((impl_WorstLook_loop0_L p).ogl r) := by
  intro p r e S' h
  unfold impl_WorstLook_loop0_post at h
  simp only [DT.get, Option.some.injEq, Prod.mk.injEq] at h; exact ⟨h.1.symm, h.2.symm⟩

def impl_WorstLook_loops : Nat → Option LoopF := loopTab [(6, impl_WorstLook_loop0_F)]
set_option maxRecDepth 100000 in
theorem impl_WorstLook_l0 : LoopOK Tryz.prog ⟨gam [(38, impl_weighedOf_c), (40, impl_IsFinite_c)], tab, 54, impl_WorstLook_loops⟩ (lp Tryz.f16 0) :=
  loopOK_some (F := impl_WorstLook_loop0_F) (by kernel_rfl) (loopF_ok (E := ⟨gam [(38, impl_weighedOf_c), (40, impl_IsFinite_c)], tab, 54, impl_WorstLook_loops⟩) ⟨gam_cons impl_weighedOf_ok (gam_cons impl_IsFinite_ok (gam_nil)), tab_ok, by kernel_rfl⟩ (fuel := 100000) (loopsOK_list (l := []) (by kernel_rfl) trivial) (L := impl_WorstLook_loop0_L) (fun p s => by unfold AgreeL; exact ⟨by kernel_rfl, by kernel_rfl⟩) (fun _ _ h => Ex.noConfusion h) impl_WorstLook_loop0_hext impl_WorstLook_loop0_hpost)
/-- loop.example/g01284/impl.WorstLook -/
def impl_WorstLook_tree (a0 : Orbit) (a1 : Nat) (a2 : List Look) : DT (Int × Nat × Bool) :=
  .need ((impl_weighedOf_need (⟨a0.Long, a0.Round, a0.Tilt, a0.Node, a0.Peri, a0.Phase⟩ : Orbit) a1 a2)) (
  let x0 := impl_weighedOf (⟨a0.Long, a0.Round, a0.Tilt, a0.Node, a0.Peri, a0.Phase⟩ : Orbit) a1 a2;
  .ask ((isL x0))
  (
   .skip (
   .skip (
   .skip (
   .skip (
   .leaf (0, 0, false))))))
  (
   .skip (
   .skip (
   let x1 := ((List.length a2 : Nat) : Int);
   .skip (
   let x2 := (x1 == 0);
   .skip (
   .ask x2
   (
    .leaf (0, 0, false))
   (
    let x3 := ((List.length (rightD x0) : Nat) : Int);
    .need ((impl_WorstLook_loop0_ends (x3, (rightD x0)) (0, 0))) (
    let x4 := impl_WorstLook_loop0 (x3, (rightD x0)) (0, 0);
    .need ((decide (0 ≤ x4) && decide (x4 < ((List.length (rightD x0) : Nat) : Int)))) (
    .need ((decide ((Int.toNat x4) < List.length (rightD x0)))) (
    let x5 := List.getD (rightD x0) (Int.toNat x4) default;
    .need ((impl_IsFinite_need x5)) (
    let x6 := impl_IsFinite x5;
    .ask (!x6)
    (
     .leaf (0, 0, false))
    (
     .need ((decide (0 ≤ x4) && decide (x4 < ((List.length (rightD x0) : Nat) : Int)))) (
     .need ((decide ((Int.toNat x4) < List.length (rightD x0)))) (
     let x7 := List.getD (rightD x0) (Int.toNat x4) default;
     .leaf (x4, x7, true)))))))))))))))
def impl_WorstLook (a0 : Orbit) (a1 : Nat) (a2 : List Look) : Int × Nat × Bool := (impl_WorstLook_tree a0 a1 a2).val
def impl_WorstLook_need (a0 : Orbit) (a1 : Nat) (a2 : List Look) : Bool := (impl_WorstLook_tree a0 a1 a2).ok
def impl_WorstLook_mk (p : Int × Nat × Bool) : Ret := ⟨.tup [.int .i64 p.1, .flt .f32 p.2.1, .bool p.2.2], []⟩
def impl_WorstLook_c0 : Con := fun args => match args with
  | [.agg [.flt .f32 a0_0, .flt .f32 a0_1, .flt .f32 a0_2, .flt .f32 a0_3, .flt .f32 a0_4, .flt .f32 a0_5], .flt .f32 a1, .vslc 3 .look a2] => some (.need (impl_WorstLook_need (⟨a0_0, a0_1, a0_2, a0_3, a0_4, a0_5⟩ : Orbit) a1 a2) (.leaf (impl_WorstLook_mk (impl_WorstLook (⟨a0_0, a0_1, a0_2, a0_3, a0_4, a0_5⟩ : Orbit) a1 a2))))
  | _ => none
set_option maxRecDepth 100000 in
theorem impl_WorstLook_ok0 : FunOK Tryz.prog 16 impl_WorstLook_c0.fn := by
  refine con_ok (Γ := gam [(38, impl_weighedOf_c), (40, impl_IsFinite_c)]) (gam_cons impl_weighedOf_ok (gam_cons impl_IsFinite_ok (gam_nil))) tab_ok (by kernel_rfl) Tryz.func16 (by kernel_rfl) (by kernel_rfl) Tryz.ntmps16 Tryz.results16 (loops := impl_WorstLook_loops) (loopsOK_list (l := [lp Tryz.f16 0]) (by kernel_rfl) ⟨impl_WorstLook_l0, trivial⟩) 100000 fun args t h => ?_
  unfold impl_WorstLook_c0 at h
  split at h
  · rename_i a0_0 a0_1 a0_2 a0_3 a0_4 a0_5 a1 a2
    cases h
    exact ⟨rfl, agree_need (mk := impl_WorstLook_mk) (t := impl_WorstLook_tree (⟨a0_0, a0_1, a0_2, a0_3, a0_4, a0_5⟩ : Orbit) a1 a2) (by unfold Agree; kernel_rfl)⟩
  · cases h
def impl_WorstLook_c : Con := fun args => impl_WorstLook_c0 (norms 0 [.none, .none, .slc .look] args)
set_option maxRecDepth 100000 in
theorem impl_WorstLook_ok : FunOK Tryz.prog 16 impl_WorstLook_c.fn := con_norm [.none, .none, .slc .look] impl_WorstLook_ok0

/-- loop.example/g01284/impl.aMass -/
def impl_aMass_tree (a0 : Nat) : DT (Bool) :=
  .need ((impl_IsFinite_need a0)) (
  let x0 := impl_IsFinite a0;
  .ask x0
  (
   let x1 := fge .f32 a0 0;
   .leaf x1)
  (
   .leaf false))
def impl_aMass (a0 : Nat) : Bool := (impl_aMass_tree a0).val
def impl_aMass_need (a0 : Nat) : Bool := (impl_aMass_tree a0).ok
def impl_aMass_mk (p : Bool) : Ret := ⟨.bool p, []⟩
def impl_aMass_c : Con := fun args => match args with
  | [.flt .f32 a0] => some (.need (impl_aMass_need a0) (.leaf (impl_aMass_mk (impl_aMass a0))))
  | _ => none
set_option maxRecDepth 100000 in
theorem impl_aMass_ok : FunOK Tryz.prog 41 impl_aMass_c.fn := by
  refine con_ok (Γ := gam [(40, impl_IsFinite_c)]) (gam_cons impl_IsFinite_ok (gam_nil)) tab_ok (by kernel_rfl) Tryz.func41 (by kernel_rfl) (by kernel_rfl) Tryz.ntmps41 Tryz.results41 (loopsOK_none rfl _) 100000 fun args t h => ?_
  unfold impl_aMass_c at h
  split at h
  · rename_i a0
    cases h
    exact ⟨rfl, agree_need (mk := impl_aMass_mk) (t := impl_aMass_tree a0) (by unfold Agree; kernel_rfl)⟩
  · cases h

/-- a loop of impl_WeighLooks -/
def impl_WeighLooks_loop0_step (p : Nat × List Look × Int) (s : Int × List Look) : Round (Int × List Look) (List Look) :=
  let x0 := decide (s.1 < p.2.2);
  .ask x0
  (
   .need ((decide (0 ≤ s.1) && decide (s.1 < ((List.length p.2.1 : Nat) : Int)))) (
   let x1 := List.getD p.2.1 (Int.toNat s.1) default;
   let x2 := fmul .f32 x1.Weight p.1;
   .need ((decide ((List.length s.2 + List.length [(⟨x1.Time, x1.Right, x1.Up, x1.Far, x2⟩ : Look)]) * 20 ≤ 140737488355328) && decide (List.length s.2 + List.length [(⟨x1.Time, x1.Right, x1.Up, x1.Far, x2⟩ : Look)] ≤ 9223372036854775807))) (
   let x3 := s.2 ++ [(⟨x1.Time, x1.Right, x1.Up, x1.Far, x2⟩ : Look)];
   let x4 := IntKind.wrap .i64 (s.1 + 1);
   .leaf (.inl (x4, x3), [113]))))
  (
   .leaf (.inr s.2, [0]))
def impl_WeighLooks_loop0_L (p : Nat × List Look × Int) : LoopS (Int × List Look) (List Look) := { tl := fun s => [.junk, .flt .f32 p.1, .junk, .junk, .junk, .junk, .own 0, .junk, .junk, .junk, .junk, .junk, .junk, .junk, .junk, .junk, .junk, .junk, .vslc 1 .look p.2.1, .int .i64 p.2.2, .int .i64 s.1], hl := fun s => [some (.typed 33 .look s.2)], ex := fun r => .exit 0, otl := fun r => [.junk, .junk, .junk, .junk, .junk, .junk, .own 0], ohl := fun r => [some (.typed 33 .look r)] }
def impl_WeighLooks_loop0_ext : St → Option ((Nat × List Look × Int) × (Int × List Look) × List Nat) := fun S => match (S.tm 1).unK, (S.tm 6).unK, (S.tm 18).unK, (S.tm 19).unK, (S.tm 20).unK with
  | .flt .f32 q0, .own i0, .vslc 1 .look q1, .int .i64 q2, .int .i64 q3 => (match S.hp i0 with
    | some (.typed 33 .look q4) => some ((q0, q1, q2), (q3, q4), [i0])
    | _ => none)
  | _, _, _, _, _ => none
def impl_WeighLooks_loop0_post (p : Nat × List Look × Int) (r : List Look) : DT (Ex × St) := .leaf (.exit 0, LSt [.junk, .junk, .junk, .junk, .junk, .junk, .own 0] [some (.typed 33 .look r)])
def impl_WeighLooks_loop0 (p : Nat × List Look × Int) (s : Int × List Look) : List Look := loopVal (impl_WeighLooks_loop0_step p) s
def impl_WeighLooks_loop0_ends (p : Nat × List Look × Int) (s : Int × List Look) : Bool := loopEnds (impl_WeighLooks_loop0_step p) s
def impl_WeighLooks_loop0_F : LoopF := loopF impl_WeighLooks_loop0_step impl_WeighLooks_loop0_ext impl_WeighLooks_loop0_post
set_option maxRecDepth 100000 in
theorem impl_WeighLooks_loop0_hext : ∀ S p s fl, impl_WeighLooks_loop0_ext S = some (p, s, fl) → Norm S fl ((impl_WeighLooks_loop0_L p).tl s) ((impl_WeighLooks_loop0_L p).hl s) (impl_WeighLooks_loop0_L p).gl := by
  intro S p s fl h
  unfold impl_WeighLooks_loop0_ext at h
  (repeat' split at h) <;> first
    | (cases h; constructor <;> simp_all [impl_WeighLooks_loop0_L, keepT, keepH, rens, renH, PV.ren, Blk.ren, fOf, lget, nodup, natIn, lenEq, gtm, PV.unK])
    | cases h
set_option maxRecDepth 100000 in
theorem impl_WeighLooks_loop0_hpost : ∀ p r e S', (impl_WeighLooks_loop0_post p r).get = some (e, S') → e = (impl_WeighLooks_loop0_L p).ex r ∧ S' = LSt ((impl_WeighLooks_loop0_L p).otl r) ((impl_WeighLooks_loop0_L p).ohl r) ((impl_WeighLooks_loop0_L p).ogl r) := by
  intro p r e S' h
  unfold impl_WeighLooks_loop0_post at h
  simp only [DT.get, Option.some.injEq, Prod.mk.injEq] at h; exact ⟨h.1.symm, h.2.symm⟩

def impl_WeighLooks_loops : Nat → Option LoopF := loopTab [(5, impl_WeighLooks_loop0_F)]
set_option maxRecDepth 100000 in
theorem impl_WeighLooks_l0 : LoopOK Tryz.prog ⟨gam [(19, impl_AreLooks_c), (41, impl_aMass_c)], tab, 38, impl_WeighLooks_loops⟩ (lp Tryz.f17 0) :=
  loopOK_some (F := impl_WeighLooks_loop0_F) (by kernel_rfl) (loopF_ok (E := ⟨gam [(19, impl_AreLooks_c), (41, impl_aMass_c)], tab, 38, impl_WeighLooks_loops⟩) ⟨gam_cons impl_AreLooks_ok (gam_cons impl_aMass_ok (gam_nil)), tab_ok, by kernel_rfl⟩ (fuel := 100000) (loopsOK_list (l := []) (by kernel_rfl) trivial) (L := impl_WeighLooks_loop0_L) (fun p s => by unfold AgreeL; exact ⟨by kernel_rfl, by kernel_rfl⟩) (fun _ _ h => Ex.noConfusion h) impl_WeighLooks_loop0_hext impl_WeighLooks_loop0_hpost)
/-- loop.example/g01284/impl.WeighLooks -/
def impl_WeighLooks_tree (a0 : List Look) (a1 : Nat) : DT ((Unit) ⊕ (List Look)) :=
  .need ((impl_AreLooks_need a0)) (
  let x0 := impl_AreLooks a0;
  .ask (!x0)
  (
   .leaf (.inl ()))
  (
   .need ((impl_aMass_need a1)) (
   let x1 := impl_aMass a1;
   .ask (!x1)
   (
    .leaf (.inl ()))
   (
    let x2 := ((List.length a0 : Nat) : Int);
    .need ((impl_WeighLooks_loop0_ends (a1, a0, x2) (0, []))) (
    let x3 := impl_WeighLooks_loop0 (a1, a0, x2) (0, []);
    .need ((impl_AreLooks_need x3)) (
    let x4 := impl_AreLooks x3;
    .ask (!x4)
    (
     .leaf (.inl ()))
    (
     .leaf (.inr x3))))))))
def impl_WeighLooks (a0 : List Look) (a1 : Nat) : (Unit) ⊕ (List Look) := (impl_WeighLooks_tree a0 a1).val
def impl_WeighLooks_need (a0 : List Look) (a1 : Nat) : Bool := (impl_WeighLooks_tree a0 a1).ok
def impl_WeighLooks_mk0 (p : Unit) : Ret := ⟨.tup [.nils, .bool false], []⟩
def impl_WeighLooks_mk1 (p : List Look) : Ret := ⟨.tup [.own 0, .bool true], [.typed 33 .look p]⟩
def impl_WeighLooks_mk : (Unit) ⊕ (List Look) → Ret := fun v => match v with
  | (.inl p) => impl_WeighLooks_mk0 p
  | (.inr p) => impl_WeighLooks_mk1 p
def impl_WeighLooks_forms (v : (Unit) ⊕ (List Look)) : DT Ret := .ask (isL v) (.leaf (impl_WeighLooks_mk0 (leftD v))) (.leaf (impl_WeighLooks_mk1 (rightD v)))
theorem impl_WeighLooks_forms_get : ∀ v, (impl_WeighLooks_forms v).get = some (impl_WeighLooks_mk v) := by
  intro v
  rcases v with v | v <;> rfl
def impl_WeighLooks_c0 : Con := fun args => match args with
  | [.vslc 1 .look a0, .flt .f32 a1] => some (.need (impl_WeighLooks_need a0 a1) (impl_WeighLooks_forms (impl_WeighLooks a0 a1)))
  | _ => none
set_option maxRecDepth 100000 in
theorem impl_WeighLooks_ok0 : FunOK Tryz.prog 17 impl_WeighLooks_c0.fn := by
  refine con_ok (Γ := gam [(19, impl_AreLooks_c), (41, impl_aMass_c)]) (gam_cons impl_AreLooks_ok (gam_cons impl_aMass_ok (gam_nil))) tab_ok (by kernel_rfl) Tryz.func17 (by kernel_rfl) (by kernel_rfl) Tryz.ntmps17 Tryz.results17 (loops := impl_WeighLooks_loops) (loopsOK_list (l := [lp Tryz.f17 0]) (by kernel_rfl) ⟨impl_WeighLooks_l0, trivial⟩) 100000 fun args t h => ?_
  unfold impl_WeighLooks_c0 at h
  split at h
  · rename_i a0 a1
    cases h
    exact ⟨rfl, agree_forms (mk := impl_WeighLooks_mk) (t := impl_WeighLooks_tree a0 a1) (by unfold Agree; kernel_rfl) (fun h => h) (impl_WeighLooks_forms_get _)⟩
  · cases h
def impl_WeighLooks_c : Con := fun args => impl_WeighLooks_c0 (norms 0 [.slc .look, .none] args)
set_option maxRecDepth 100000 in
theorem impl_WeighLooks_ok : FunOK Tryz.prog 17 impl_WeighLooks_c.fn := con_norm [.slc .look, .none] impl_WeighLooks_ok0

/-- loop.example/g01284/laws.b10Gap -/
def laws_b10Gap_tree (a0 : Nat) (a1 : Nat) : DT (Nat) :=
  let x0 := flt .f64 a0 a1;
  .ask x0
  (
   let x1 := fsub .f64 a1 a0;
   .leaf x1)
  (
   let x1 := fsub .f64 a0 a1;
   .leaf x1)
def laws_b10Gap (a0 : Nat) (a1 : Nat) : Nat := (laws_b10Gap_tree a0 a1).val
def laws_b10Gap_mk (p : Nat) : Ret := ⟨.flt .f64 p, []⟩
def laws_b10Gap_c : Con := fun args => match args with
  | [.flt .f64 a0, .flt .f64 a1] => some (.leaf (laws_b10Gap_mk (laws_b10Gap a0 a1)))
  | _ => none
set_option maxRecDepth 100000 in
theorem laws_b10Gap_ok : FunOK Tryz.prog 18 laws_b10Gap_c.fn := by
  refine con_ok (Γ := gam []) (gam_nil) tab_ok (by kernel_rfl) Tryz.func18 (by kernel_rfl) (by kernel_rfl) Tryz.ntmps18 Tryz.results18 (loopsOK_none rfl _) 100000 fun args t h => ?_
  unfold laws_b10Gap_c at h
  split at h
  · rename_i a0 a1
    cases h
    exact ⟨rfl, agree_tot (mk := laws_b10Gap_mk) (t := laws_b10Gap_tree a0 a1) (by unfold Agree; kernel_rfl) (by kernel_rfl)⟩
  · cases h

/-- loop.example/g01284/impl.SameNumber -/
def impl_SameNumber_tree (a0 : Nat) (a1 : Nat) : DT (Bool) :=
  let x0 := fne .f32 a0 a0;
  .ask x0
  (
   let x1 := fne .f32 a0 a0;
   .ask x1
   (
    let x2 := fne .f32 a1 a1;
    .leaf x2)
   (
    .leaf false))
  (
   let x1 := fne .f32 a1 a1;
   .ask x1
   (
    let x2 := fne .f32 a0 a0;
    .ask x2
    (
     let x3 := fne .f32 a1 a1;
     .leaf x3)
    (
     .leaf false))
   (
    let x2 := feq .f32 a0 a1;
    .ask x2
    (
     .need ((fconvOk .f32 a0 .f64)) (
     let x3 := fconv .f32 a0 .f64;
     .need ((!isNaN .f64 x3)) (
     let x4 := decide (IntKind.wrap .i64 ((x3 : Nat) : Int) < 0);
     .need ((fconvOk .f32 a1 .f64)) (
     let x5 := fconv .f32 a1 .f64;
     .need ((!isNaN .f64 x5)) (
     let x6 := decide (IntKind.wrap .i64 ((x5 : Nat) : Int) < 0);
     let x7 := (x4 == x6);
     .leaf x7)))))
    (
     .leaf false)))
def impl_SameNumber (a0 : Nat) (a1 : Nat) : Bool := (impl_SameNumber_tree a0 a1).val
def impl_SameNumber_need (a0 : Nat) (a1 : Nat) : Bool := (impl_SameNumber_tree a0 a1).ok
def impl_SameNumber_mk (p : Bool) : Ret := ⟨.bool p, []⟩
def impl_SameNumber_c : Con := fun args => match args with
  | [.flt .f32 a0, .flt .f32 a1] => some (.need (impl_SameNumber_need a0 a1) (.leaf (impl_SameNumber_mk (impl_SameNumber a0 a1))))
  | _ => none
set_option maxRecDepth 100000 in
theorem impl_SameNumber_ok : FunOK Tryz.prog 89 impl_SameNumber_c.fn := by
  refine con_ok (Γ := gam [(114, math_Signbit_c)]) (gam_cons math_Signbit_ok (gam_nil)) tab_ok (by kernel_rfl) Tryz.func89 (by kernel_rfl) (by kernel_rfl) Tryz.ntmps89 Tryz.results89 (loopsOK_none rfl _) 100000 fun args t h => ?_
  unfold impl_SameNumber_c at h
  split at h
  · rename_i a0 a1
    cases h
    exact ⟨rfl, agree_need (mk := impl_SameNumber_mk) (t := impl_SameNumber_tree a0 a1) (by unfold Agree; kernel_rfl)⟩
  · cases h

/-- a loop of slices_EqualFunc___float32___float32_float32_float32__impl_SameNumber -/
def slices_EqualFunc___float32___float32_float32_float32__impl_SameNumber_loop0_step (p : List Nat × List Nat × Int) (s : Int) : Round (Int) ((Unit) ⊕ (Unit)) :=
  let x0 := decide (s < p.2.2);
  .ask x0
  (
   .need ((decide (0 ≤ s) && decide (s < ((List.length p.2.1 : Nat) : Int)))) (
   let x1 := List.getD p.2.1 (Int.toNat s) default;
   .need ((decide (0 ≤ s) && decide (s < ((List.length p.1 : Nat) : Int)))) (
   let x2 := List.getD p.1 (Int.toNat s) default;
   .need ((impl_SameNumber_need x1 x2)) (
   let x3 := impl_SameNumber x1 x2;
   .ask (!x3)
   (
    .leaf (.inr (.inl ()), []))
   (
    let x4 := IntKind.wrap .i64 (s + 1);
    .leaf (.inl x4, []))))))
  (
   .leaf (.inr (.inr ()), []))
def slices_EqualFunc___float32___float32_float32_float32__impl_SameNumber_loop0_L (p : List Nat × List Nat × Int) : LoopS (Int) ((Unit) ⊕ (Unit)) := { tl := fun s => [.junk, .vslc 2 (.flt .f32) p.1, .func (.func 89) [] [], .junk, .junk, .junk, .junk, .junk, .junk, .junk, .junk, .junk, .junk, .junk, .junk, .vslc 1 (.flt .f32) p.2.1, .int .i64 p.2.2, .int .i64 s], hl := fun s => [], ex := fun r => match r with | .inl r => .ret | .inr r => .exit 0, otl := fun r => match r with | .inl r => [.junk, .junk, .junk, .junk, .junk, .junk, .bool false] | .inr r => [.junk], ohl := fun r => match r with | .inl r => [] | .inr r => [] }
def slices_EqualFunc___float32___float32_float32_float32__impl_SameNumber_loop0_ext : St → Option ((List Nat × List Nat × Int) × (Int) × List Nat) := fun S => match (S.tm 1).unK, (S.tm 2).unK, (S.tm 15).unK, (S.tm 16).unK, (S.tm 17).unK with
  | .vslc 2 (.flt .f32) q0, .func (.func 89) [] [], .vslc 1 (.flt .f32) q1, .int .i64 q2, .int .i64 q3 => some ((q0, q1, q2), q3, [])
  | _, _, _, _, _ => none
def slices_EqualFunc___float32___float32_float32_float32__impl_SameNumber_loop0_post (p : List Nat × List Nat × Int) (r : (Unit) ⊕ (Unit)) : DT (Ex × St) := .ask (isL r) (.leaf (.ret, LSt [.junk, .junk, .junk, .junk, .junk, .junk, .bool false] [])) (.leaf (.exit 0, LSt [.junk] []))
def slices_EqualFunc___float32___float32_float32_float32__impl_SameNumber_loop0 (p : List Nat × List Nat × Int) (s : Int) : (Unit) ⊕ (Unit) := loopVal (slices_EqualFunc___float32___float32_float32_float32__impl_SameNumber_loop0_step p) s
def slices_EqualFunc___float32___float32_float32_float32__impl_SameNumber_loop0_ends (p : List Nat × List Nat × Int) (s : Int) : Bool := loopEnds (slices_EqualFunc___float32___float32_float32_float32__impl_SameNumber_loop0_step p) s
def slices_EqualFunc___float32___float32_float32_float32__impl_SameNumber_loop0_F : LoopF := loopF slices_EqualFunc___float32___float32_float32_float32__impl_SameNumber_loop0_step slices_EqualFunc___float32___float32_float32_float32__impl_SameNumber_loop0_ext slices_EqualFunc___float32___float32_float32_float32__impl_SameNumber_loop0_post
set_option maxRecDepth 100000 in
theorem slices_EqualFunc___float32___float32_float32_float32__impl_SameNumber_loop0_hext : ∀ S p s fl, slices_EqualFunc___float32___float32_float32_float32__impl_SameNumber_loop0_ext S = some (p, s, fl) → Norm S fl ((slices_EqualFunc___float32___float32_float32_float32__impl_SameNumber_loop0_L p).tl s) ((slices_EqualFunc___float32___float32_float32_float32__impl_SameNumber_loop0_L p).hl s) (slices_EqualFunc___float32___float32_float32_float32__impl_SameNumber_loop0_L p).gl := by
  intro S p s fl h
  unfold slices_EqualFunc___float32___float32_float32_float32__impl_SameNumber_loop0_ext at h
  (repeat' split at h) <;> first
    | (cases h; constructor <;> simp_all [slices_EqualFunc___float32___float32_float32_float32__impl_SameNumber_loop0_L, keepT, keepH, rens, renH, PV.ren, Blk.ren, fOf, lget, nodup, natIn, lenEq, gtm, PV.unK])
    | cases h
set_option maxRecDepth 100000 in
theorem slices_EqualFunc___float32___float32_float32_float32__impl_SameNumber_loop0_hpost : ∀ p r e S', (slices_EqualFunc___float32___float32_float32_float32__impl_SameNumber_loop0_post p r).get = some (e, S') → e = (slices_EqualFunc___float32___float32_float32_float32__impl_SameNumber_loop0_L p).ex r ∧ S' = LSt ((slices_EqualFunc___float32___float32_float32_float32__impl_SameNumber_loop0_L p).otl r) ((slices_EqualFunc___float32___float32_float32_float32__impl_SameNumber_loop0_L p).ohl r) ((slices_EqualFunc___float32___float32_float32_float32__impl_SameNumber_loop0_L p).ogl r) := by
  intro p r e S' h
  unfold slices_EqualFunc___float32___float32_float32_float32__impl_SameNumber_loop0_post at h
  cases r <;> (simp only [isL, DT.get, Option.some.injEq, Prod.mk.injEq] at h; exact ⟨h.1.symm, h.2.symm⟩)

def slices_EqualFunc___float32___float32_float32_float32__impl_SameNumber_loops : Nat → Option LoopF := loopTab [(4, slices_EqualFunc___float32___float32_float32_float32__impl_SameNumber_loop0_F)]
set_option maxRecDepth 100000 in
theorem slices_EqualFunc___float32___float32_float32_float32__impl_SameNumber_l0 : LoopOK Tryz.prog ⟨gam [(89, impl_SameNumber_c)], tab, 32, slices_EqualFunc___float32___float32_float32_float32__impl_SameNumber_loops⟩ (lp Tryz.f88 0) :=
  loopOK_some (F := slices_EqualFunc___float32___float32_float32_float32__impl_SameNumber_loop0_F) (by kernel_rfl) (loopF_ok (E := ⟨gam [(89, impl_SameNumber_c)], tab, 32, slices_EqualFunc___float32___float32_float32_float32__impl_SameNumber_loops⟩) ⟨gam_cons impl_SameNumber_ok (gam_nil), tab_ok, by kernel_rfl⟩ (fuel := 100000) (loopsOK_list (l := []) (by kernel_rfl) trivial) (L := slices_EqualFunc___float32___float32_float32_float32__impl_SameNumber_loop0_L) (fun p s => by unfold AgreeL; exact ⟨by kernel_rfl, by kernel_rfl⟩) (fun _ r h => by cases r <;> exact Ex.noConfusion h) slices_EqualFunc___float32___float32_float32_float32__impl_SameNumber_loop0_hext slices_EqualFunc___float32___float32_float32_float32__impl_SameNumber_loop0_hpost)
/-- slices.EqualFunc[[]float32,[]float32,float32,float32] -/
def slices_EqualFunc___float32___float32_float32_float32__impl_SameNumber_tree (a0 : List Nat) (a1 : List Nat) : DT (Bool) :=
  let x0 := ((List.length a0 : Nat) : Int);
  let x1 := ((List.length a1 : Nat) : Int);
  let x2 := (x0 != x1);
  .ask x2
  (
   .leaf false)
  (
   let x3 := ((List.length a0 : Nat) : Int);
   .need ((slices_EqualFunc___float32___float32_float32_float32__impl_SameNumber_loop0_ends (a1, a0, x3) 0)) (
   let x4 := slices_EqualFunc___float32___float32_float32_float32__impl_SameNumber_loop0 (a1, a0, x3) 0;
   .ask ((isL x4))
   (
    .leaf false)
   (
    .leaf true)))
def slices_EqualFunc___float32___float32_float32_float32__impl_SameNumber (a0 : List Nat) (a1 : List Nat) : Bool := (slices_EqualFunc___float32___float32_float32_float32__impl_SameNumber_tree a0 a1).val
def slices_EqualFunc___float32___float32_float32_float32__impl_SameNumber_need (a0 : List Nat) (a1 : List Nat) : Bool := (slices_EqualFunc___float32___float32_float32_float32__impl_SameNumber_tree a0 a1).ok
def slices_EqualFunc___float32___float32_float32_float32__impl_SameNumber_mk (p : Bool) : Ret := ⟨.bool p, []⟩
def slices_EqualFunc___float32___float32_float32_float32__impl_SameNumber_c0 : Con := fun args => match args with
  | [.vslc 1 (.flt .f32) a0, .vslc 2 (.flt .f32) a1, .func (.func 89) [] []] => some (.need (slices_EqualFunc___float32___float32_float32_float32__impl_SameNumber_need a0 a1) (.leaf (slices_EqualFunc___float32___float32_float32_float32__impl_SameNumber_mk (slices_EqualFunc___float32___float32_float32_float32__impl_SameNumber a0 a1))))
  | _ => none
set_option maxRecDepth 100000 in
theorem slices_EqualFunc___float32___float32_float32_float32__impl_SameNumber_ok0 : FunOK Tryz.prog 88 slices_EqualFunc___float32___float32_float32_float32__impl_SameNumber_c0.fn := by
  refine con_ok (Γ := gam [(89, impl_SameNumber_c)]) (gam_cons impl_SameNumber_ok (gam_nil)) tab_ok (by kernel_rfl) Tryz.func88 (by kernel_rfl) (by kernel_rfl) Tryz.ntmps88 Tryz.results88 (loops := slices_EqualFunc___float32___float32_float32_float32__impl_SameNumber_loops) (loopsOK_list (l := [lp Tryz.f88 0]) (by kernel_rfl) ⟨slices_EqualFunc___float32___float32_float32_float32__impl_SameNumber_l0, trivial⟩) 100000 fun args t h => ?_
  unfold slices_EqualFunc___float32___float32_float32_float32__impl_SameNumber_c0 at h
  split at h
  · rename_i a0 a1
    cases h
    exact ⟨rfl, agree_need (mk := slices_EqualFunc___float32___float32_float32_float32__impl_SameNumber_mk) (t := slices_EqualFunc___float32___float32_float32_float32__impl_SameNumber_tree a0 a1) (by unfold Agree; kernel_rfl)⟩
  · cases h
def slices_EqualFunc___float32___float32_float32_float32__impl_SameNumber_c : Con := fun args => slices_EqualFunc___float32___float32_float32_float32__impl_SameNumber_c0 (norms 0 [.slc (.flt .f32), .slc (.flt .f32), .none] args)
set_option maxRecDepth 100000 in
theorem slices_EqualFunc___float32___float32_float32_float32__impl_SameNumber_ok : FunOK Tryz.prog 88 slices_EqualFunc___float32___float32_float32_float32__impl_SameNumber_c.fn := con_norm [.slc (.flt .f32), .slc (.flt .f32), .none] slices_EqualFunc___float32___float32_float32_float32__impl_SameNumber_ok0

/-- loop.example/g01284/impl.sameNumbers -/
def impl_sameNumbers_tree (a0 : List Nat) (a1 : List Nat) : DT (Bool) :=
  .need ((slices_EqualFunc___float32___float32_float32_float32__impl_SameNumber_need a0 a1 )) (
  let x0 := slices_EqualFunc___float32___float32_float32_float32__impl_SameNumber a0 a1 ;
  .leaf x0)
def impl_sameNumbers (a0 : List Nat) (a1 : List Nat) : Bool := (impl_sameNumbers_tree a0 a1).val
def impl_sameNumbers_need (a0 : List Nat) (a1 : List Nat) : Bool := (impl_sameNumbers_tree a0 a1).ok
def impl_sameNumbers_mk (p : Bool) : Ret := ⟨.bool p, []⟩
def impl_sameNumbers_c0 : Con := fun args => match args with
  | [.vslc 1 (.flt .f32) a0, .vslc 2 (.flt .f32) a1] => some (.need (impl_sameNumbers_need a0 a1) (.leaf (impl_sameNumbers_mk (impl_sameNumbers a0 a1))))
  | _ => none
set_option maxRecDepth 100000 in
theorem impl_sameNumbers_ok0 : FunOK Tryz.prog 47 impl_sameNumbers_c0.fn := by
  refine con_ok (Γ := gam [(88, slices_EqualFunc___float32___float32_float32_float32__impl_SameNumber_c)]) (gam_cons slices_EqualFunc___float32___float32_float32_float32__impl_SameNumber_ok (gam_nil)) tab_ok (by kernel_rfl) Tryz.func47 (by kernel_rfl) (by kernel_rfl) Tryz.ntmps47 Tryz.results47 (loopsOK_none rfl _) 100000 fun args t h => ?_
  unfold impl_sameNumbers_c0 at h
  split at h
  · rename_i a0 a1
    cases h
    exact ⟨rfl, agree_need (mk := impl_sameNumbers_mk) (t := impl_sameNumbers_tree a0 a1) (by unfold Agree; kernel_rfl)⟩
  · cases h
def impl_sameNumbers_c : Con := fun args => impl_sameNumbers_c0 (norms 0 [.slc (.flt .f32), .slc (.flt .f32)] args)
set_option maxRecDepth 100000 in
theorem impl_sameNumbers_ok : FunOK Tryz.prog 47 impl_sameNumbers_c.fn := con_norm [.slc (.flt .f32), .slc (.flt .f32)] impl_sameNumbers_ok0

/-- loop.example/g01284/impl.SameLooks$1 -/
def impl_SameLooks_1_tree (a0 : Look) (a1 : Look) : DT (Bool) :=
  .need ((impl_sameNumbers_need ([a0.Time, a0.Right, a0.Up, a0.Far, a0.Weight]) ([a1.Time, a1.Right, a1.Up, a1.Far, a1.Weight]))) (
  let x0 := impl_sameNumbers ([a0.Time, a0.Right, a0.Up, a0.Far, a0.Weight]) ([a1.Time, a1.Right, a1.Up, a1.Far, a1.Weight]);
  .leaf x0)
def impl_SameLooks_1 (a0 : Look) (a1 : Look) : Bool := (impl_SameLooks_1_tree a0 a1).val
def impl_SameLooks_1_need (a0 : Look) (a1 : Look) : Bool := (impl_SameLooks_1_tree a0 a1).ok
def impl_SameLooks_1_mk (p : Bool) : Ret := ⟨.bool p, []⟩
def impl_SameLooks_1_c : Con := fun args => match args with
  | [.agg [.flt .f32 a0_0, .flt .f32 a0_1, .flt .f32 a0_2, .flt .f32 a0_3, .flt .f32 a0_4], .agg [.flt .f32 a1_0, .flt .f32 a1_1, .flt .f32 a1_2, .flt .f32 a1_3, .flt .f32 a1_4]] => some (.need (impl_SameLooks_1_need (⟨a0_0, a0_1, a0_2, a0_3, a0_4⟩ : Look) (⟨a1_0, a1_1, a1_2, a1_3, a1_4⟩ : Look)) (.leaf (impl_SameLooks_1_mk (impl_SameLooks_1 (⟨a0_0, a0_1, a0_2, a0_3, a0_4⟩ : Look) (⟨a1_0, a1_1, a1_2, a1_3, a1_4⟩ : Look)))))
  | _ => none
set_option maxRecDepth 100000 in
theorem impl_SameLooks_1_ok : FunOK Tryz.prog 46 impl_SameLooks_1_c.fn := by
  refine con_ok (Γ := gam [(47, impl_sameNumbers_c)]) (gam_cons impl_sameNumbers_ok (gam_nil)) tab_ok (by kernel_rfl) Tryz.func46 (by kernel_rfl) (by kernel_rfl) Tryz.ntmps46 Tryz.results46 (loopsOK_none rfl _) 100000 fun args t h => ?_
  unfold impl_SameLooks_1_c at h
  split at h
  · rename_i a0_0 a0_1 a0_2 a0_3 a0_4 a1_0 a1_1 a1_2 a1_3 a1_4
    cases h
    exact ⟨rfl, agree_need (mk := impl_SameLooks_1_mk) (t := impl_SameLooks_1_tree (⟨a0_0, a0_1, a0_2, a0_3, a0_4⟩ : Look) (⟨a1_0, a1_1, a1_2, a1_3, a1_4⟩ : Look)) (by unfold Agree; kernel_rfl)⟩
  · cases h

/-- a loop of slices_EqualFunc___impl_Look___impl_Look_impl_Look_impl_Look__impl_SameLooks_1 -/
def slices_EqualFunc___impl_Look___impl_Look_impl_Look_impl_Look__impl_SameLooks_1_loop0_step (p : List Look × List Look × Int) (s : Int) : Round (Int) ((Unit) ⊕ (Unit)) :=
  let x0 := decide (s < p.2.2);
  .ask x0
  (
   .need ((decide (0 ≤ s) && decide (s < ((List.length p.2.1 : Nat) : Int)))) (
   let x1 := List.getD p.2.1 (Int.toNat s) default;
   .need ((decide (0 ≤ s) && decide (s < ((List.length p.1 : Nat) : Int)))) (
   let x2 := List.getD p.1 (Int.toNat s) default;
   .need ((impl_SameLooks_1_need (⟨x1.Time, x1.Right, x1.Up, x1.Far, x1.Weight⟩ : Look) (⟨x2.Time, x2.Right, x2.Up, x2.Far, x2.Weight⟩ : Look))) (
   let x3 := impl_SameLooks_1 (⟨x1.Time, x1.Right, x1.Up, x1.Far, x1.Weight⟩ : Look) (⟨x2.Time, x2.Right, x2.Up, x2.Far, x2.Weight⟩ : Look);
   .ask (!x3)
   (
    .leaf (.inr (.inl ()), []))
   (
    let x4 := IntKind.wrap .i64 (s + 1);
    .leaf (.inl x4, []))))))
  (
   .leaf (.inr (.inr ()), []))
def slices_EqualFunc___impl_Look___impl_Look_impl_Look_impl_Look__impl_SameLooks_1_loop0_L (p : List Look × List Look × Int) : LoopS (Int) ((Unit) ⊕ (Unit)) := { tl := fun s => [.junk, .vslc 2 .look p.1, .func (.func 46) [] [], .junk, .junk, .junk, .junk, .junk, .junk, .junk, .junk, .junk, .junk, .junk, .junk, .vslc 1 .look p.2.1, .int .i64 p.2.2, .int .i64 s], hl := fun s => [], ex := fun r => match r with | .inl r => .ret | .inr r => .exit 0, otl := fun r => match r with | .inl r => [.junk, .junk, .junk, .junk, .junk, .junk, .bool false] | .inr r => [.junk], ohl := fun r => match r with | .inl r => [] | .inr r => [] }
def slices_EqualFunc___impl_Look___impl_Look_impl_Look_impl_Look__impl_SameLooks_1_loop0_ext : St → Option ((List Look × List Look × Int) × (Int) × List Nat) := fun S => match (S.tm 1).unK, (S.tm 2).unK, (S.tm 15).unK, (S.tm 16).unK, (S.tm 17).unK with
  | .vslc 2 .look q0, .func (.func 46) [] [], .vslc 1 .look q1, .int .i64 q2, .int .i64 q3 => some ((q0, q1, q2), q3, [])
  | _, _, _, _, _ => none
def slices_EqualFunc___impl_Look___impl_Look_impl_Look_impl_Look__impl_SameLooks_1_loop0_post (p : List Look × List Look × Int) (r : (Unit) ⊕ (Unit)) : DT (Ex × St) := .ask (isL r) (.leaf (.ret, LSt [.junk, .junk, .junk, .junk, .junk, .junk, .bool false] [])) (.leaf (.exit 0, LSt [.junk] []))
def slices_EqualFunc___impl_Look___impl_Look_impl_Look_impl_Look__impl_SameLooks_1_loop0 (p : List Look × List Look × Int) (s : Int) : (Unit) ⊕ (Unit) := loopVal (slices_EqualFunc___impl_Look___impl_Look_impl_Look_impl_Look__impl_SameLooks_1_loop0_step p) s
def slices_EqualFunc___impl_Look___impl_Look_impl_Look_impl_Look__impl_SameLooks_1_loop0_ends (p : List Look × List Look × Int) (s : Int) : Bool := loopEnds (slices_EqualFunc___impl_Look___impl_Look_impl_Look_impl_Look__impl_SameLooks_1_loop0_step p) s
def slices_EqualFunc___impl_Look___impl_Look_impl_Look_impl_Look__impl_SameLooks_1_loop0_F : LoopF := loopF slices_EqualFunc___impl_Look___impl_Look_impl_Look_impl_Look__impl_SameLooks_1_loop0_step slices_EqualFunc___impl_Look___impl_Look_impl_Look_impl_Look__impl_SameLooks_1_loop0_ext slices_EqualFunc___impl_Look___impl_Look_impl_Look_impl_Look__impl_SameLooks_1_loop0_post
set_option maxRecDepth 100000 in
theorem slices_EqualFunc___impl_Look___impl_Look_impl_Look_impl_Look__impl_SameLooks_1_loop0_hext : ∀ S p s fl, slices_EqualFunc___impl_Look___impl_Look_impl_Look_impl_Look__impl_SameLooks_1_loop0_ext S = some (p, s, fl) → Norm S fl ((slices_EqualFunc___impl_Look___impl_Look_impl_Look_impl_Look__impl_SameLooks_1_loop0_L p).tl s) ((slices_EqualFunc___impl_Look___impl_Look_impl_Look_impl_Look__impl_SameLooks_1_loop0_L p).hl s) (slices_EqualFunc___impl_Look___impl_Look_impl_Look_impl_Look__impl_SameLooks_1_loop0_L p).gl := by
  intro S p s fl h
  unfold slices_EqualFunc___impl_Look___impl_Look_impl_Look_impl_Look__impl_SameLooks_1_loop0_ext at h
  (repeat' split at h) <;> first
    | (cases h; constructor <;> simp_all [slices_EqualFunc___impl_Look___impl_Look_impl_Look_impl_Look__impl_SameLooks_1_loop0_L, keepT, keepH, rens, renH, PV.ren, Blk.ren, fOf, lget, nodup, natIn, lenEq, gtm, PV.unK])
    | cases h
set_option maxRecDepth 100000 in
theorem slices_EqualFunc___impl_Look___impl_Look_impl_Look_impl_Look__impl_SameLooks_1_loop0_hpost : ∀ p r e S', (slices_EqualFunc___impl_Look___impl_Look_impl_Look_impl_Look__impl_SameLooks_1_loop0_post p r).get = some (e, S') → e = (slices_EqualFunc___impl_Look___impl_Look_impl_Look_impl_Look__impl_SameLooks_1_loop0_L p).ex r ∧ S' = LSt ((slices_EqualFunc___impl_Look___impl_Look_impl_Look_impl_Look__impl_SameLooks_1_loop0_L p).otl r) ((slices_EqualFunc___impl_Look___impl_Look_impl_Look_impl_Look__impl_SameLooks_1_loop0_L p).ohl r) ((slices_EqualFunc___impl_Look___impl_Look_impl_Look_impl_Look__impl_SameLooks_1_loop0_L p).ogl r) := by
  intro p r e S' h
  unfold slices_EqualFunc___impl_Look___impl_Look_impl_Look_impl_Look__impl_SameLooks_1_loop0_post at h
  cases r <;> (simp only [isL, DT.get, Option.some.injEq, Prod.mk.injEq] at h; exact ⟨h.1.symm, h.2.symm⟩)

def slices_EqualFunc___impl_Look___impl_Look_impl_Look_impl_Look__impl_SameLooks_1_loops : Nat → Option LoopF := loopTab [(4, slices_EqualFunc___impl_Look___impl_Look_impl_Look_impl_Look__impl_SameLooks_1_loop0_F)]
set_option maxRecDepth 100000 in
theorem slices_EqualFunc___impl_Look___impl_Look_impl_Look_impl_Look__impl_SameLooks_1_l0 : LoopOK Tryz.prog ⟨gam [(46, impl_SameLooks_1_c)], tab, 32, slices_EqualFunc___impl_Look___impl_Look_impl_Look_impl_Look__impl_SameLooks_1_loops⟩ (lp Tryz.f45 0) :=
  loopOK_some (F := slices_EqualFunc___impl_Look___impl_Look_impl_Look_impl_Look__impl_SameLooks_1_loop0_F) (by kernel_rfl) (loopF_ok (E := ⟨gam [(46, impl_SameLooks_1_c)], tab, 32, slices_EqualFunc___impl_Look___impl_Look_impl_Look_impl_Look__impl_SameLooks_1_loops⟩) ⟨gam_cons impl_SameLooks_1_ok (gam_nil), tab_ok, by kernel_rfl⟩ (fuel := 100000) (loopsOK_list (l := []) (by kernel_rfl) trivial) (L := slices_EqualFunc___impl_Look___impl_Look_impl_Look_impl_Look__impl_SameLooks_1_loop0_L) (fun p s => by unfold AgreeL; exact ⟨by kernel_rfl, by kernel_rfl⟩) (fun _ r h => by cases r <;> exact Ex.noConfusion h) slices_EqualFunc___impl_Look___impl_Look_impl_Look_impl_Look__impl_SameLooks_1_loop0_hext slices_EqualFunc___impl_Look___impl_Look_impl_Look_impl_Look__impl_SameLooks_1_loop0_hpost)
/-- slices.EqualFunc[[]loop.example/g01284/impl.Look,[]loop.example/g01284/impl.Look,loop.example/g01284/impl.Look,loop.example/g01284/impl.Look] -/
def slices_EqualFunc___impl_Look___impl_Look_impl_Look_impl_Look__impl_SameLooks_1_tree (a0 : List Look) (a1 : List Look) : DT (Bool) :=
  let x0 := ((List.length a0 : Nat) : Int);
  let x1 := ((List.length a1 : Nat) : Int);
  let x2 := (x0 != x1);
  .ask x2
  (
   .leaf false)
  (
   let x3 := ((List.length a0 : Nat) : Int);
   .need ((slices_EqualFunc___impl_Look___impl_Look_impl_Look_impl_Look__impl_SameLooks_1_loop0_ends (a1, a0, x3) 0)) (
   let x4 := slices_EqualFunc___impl_Look___impl_Look_impl_Look_impl_Look__impl_SameLooks_1_loop0 (a1, a0, x3) 0;
   .ask ((isL x4))
   (
    .leaf false)
   (
    .leaf true)))
def slices_EqualFunc___impl_Look___impl_Look_impl_Look_impl_Look__impl_SameLooks_1 (a0 : List Look) (a1 : List Look) : Bool := (slices_EqualFunc___impl_Look___impl_Look_impl_Look_impl_Look__impl_SameLooks_1_tree a0 a1).val
def slices_EqualFunc___impl_Look___impl_Look_impl_Look_impl_Look__impl_SameLooks_1_need (a0 : List Look) (a1 : List Look) : Bool := (slices_EqualFunc___impl_Look___impl_Look_impl_Look_impl_Look__impl_SameLooks_1_tree a0 a1).ok
def slices_EqualFunc___impl_Look___impl_Look_impl_Look_impl_Look__impl_SameLooks_1_mk (p : Bool) : Ret := ⟨.bool p, []⟩
def slices_EqualFunc___impl_Look___impl_Look_impl_Look_impl_Look__impl_SameLooks_1_c0 : Con := fun args => match args with
  | [.vslc 1 .look a0, .vslc 2 .look a1, .func (.func 46) [] []] => some (.need (slices_EqualFunc___impl_Look___impl_Look_impl_Look_impl_Look__impl_SameLooks_1_need a0 a1) (.leaf (slices_EqualFunc___impl_Look___impl_Look_impl_Look_impl_Look__impl_SameLooks_1_mk (slices_EqualFunc___impl_Look___impl_Look_impl_Look_impl_Look__impl_SameLooks_1 a0 a1))))
  | _ => none
set_option maxRecDepth 100000 in
theorem slices_EqualFunc___impl_Look___impl_Look_impl_Look_impl_Look__impl_SameLooks_1_ok0 : FunOK Tryz.prog 45 slices_EqualFunc___impl_Look___impl_Look_impl_Look_impl_Look__impl_SameLooks_1_c0.fn := by
  refine con_ok (Γ := gam [(46, impl_SameLooks_1_c)]) (gam_cons impl_SameLooks_1_ok (gam_nil)) tab_ok (by kernel_rfl) Tryz.func45 (by kernel_rfl) (by kernel_rfl) Tryz.ntmps45 Tryz.results45 (loops := slices_EqualFunc___impl_Look___impl_Look_impl_Look_impl_Look__impl_SameLooks_1_loops) (loopsOK_list (l := [lp Tryz.f45 0]) (by kernel_rfl) ⟨slices_EqualFunc___impl_Look___impl_Look_impl_Look_impl_Look__impl_SameLooks_1_l0, trivial⟩) 100000 fun args t h => ?_
  unfold slices_EqualFunc___impl_Look___impl_Look_impl_Look_impl_Look__impl_SameLooks_1_c0 at h
  split at h
  · rename_i a0 a1
    cases h
    exact ⟨rfl, agree_need (mk := slices_EqualFunc___impl_Look___impl_Look_impl_Look_impl_Look__impl_SameLooks_1_mk) (t := slices_EqualFunc___impl_Look___impl_Look_impl_Look_impl_Look__impl_SameLooks_1_tree a0 a1) (by unfold Agree; kernel_rfl)⟩
  · cases h
def slices_EqualFunc___impl_Look___impl_Look_impl_Look_impl_Look__impl_SameLooks_1_c : Con := fun args => slices_EqualFunc___impl_Look___impl_Look_impl_Look_impl_Look__impl_SameLooks_1_c0 (norms 0 [.slc .look, .slc .look, .none] args)
set_option maxRecDepth 100000 in
theorem slices_EqualFunc___impl_Look___impl_Look_impl_Look_impl_Look__impl_SameLooks_1_ok : FunOK Tryz.prog 45 slices_EqualFunc___impl_Look___impl_Look_impl_Look_impl_Look__impl_SameLooks_1_c.fn := con_norm [.slc .look, .slc .look, .none] slices_EqualFunc___impl_Look___impl_Look_impl_Look_impl_Look__impl_SameLooks_1_ok0

/-- loop.example/g01284/impl.SameLooks -/
def impl_SameLooks_tree (a0 : List Look) (a1 : List Look) : DT (Bool) :=
  .need ((slices_EqualFunc___impl_Look___impl_Look_impl_Look_impl_Look__impl_SameLooks_1_need a0 a1 )) (
  let x0 := slices_EqualFunc___impl_Look___impl_Look_impl_Look_impl_Look__impl_SameLooks_1 a0 a1 ;
  .leaf x0)
def impl_SameLooks (a0 : List Look) (a1 : List Look) : Bool := (impl_SameLooks_tree a0 a1).val
def impl_SameLooks_need (a0 : List Look) (a1 : List Look) : Bool := (impl_SameLooks_tree a0 a1).ok
def impl_SameLooks_mk (p : Bool) : Ret := ⟨.bool p, []⟩
def impl_SameLooks_c0 : Con := fun args => match args with
  | [.vslc 1 .look a0, .vslc 2 .look a1] => some (.need (impl_SameLooks_need a0 a1) (.leaf (impl_SameLooks_mk (impl_SameLooks a0 a1))))
  | _ => none
set_option maxRecDepth 100000 in
theorem impl_SameLooks_ok0 : FunOK Tryz.prog 20 impl_SameLooks_c0.fn := by
  refine con_ok (Γ := gam [(45, slices_EqualFunc___impl_Look___impl_Look_impl_Look_impl_Look__impl_SameLooks_1_c)]) (gam_cons slices_EqualFunc___impl_Look___impl_Look_impl_Look_impl_Look__impl_SameLooks_1_ok (gam_nil)) tab_ok (by kernel_rfl) Tryz.func20 (by kernel_rfl) (by kernel_rfl) Tryz.ntmps20 Tryz.results20 (loopsOK_none rfl _) 100000 fun args t h => ?_
  unfold impl_SameLooks_c0 at h
  split at h
  · rename_i a0 a1
    cases h
    exact ⟨rfl, agree_need (mk := impl_SameLooks_mk) (t := impl_SameLooks_tree a0 a1) (by unfold Agree; kernel_rfl)⟩
  · cases h
def impl_SameLooks_c : Con := fun args => impl_SameLooks_c0 (norms 0 [.slc .look, .slc .look] args)
set_option maxRecDepth 100000 in
theorem impl_SameLooks_ok : FunOK Tryz.prog 20 impl_SameLooks_c.fn := con_norm [.slc .look, .slc .look] impl_SameLooks_ok0

/-- a loop of impl_DropLooks -/
def impl_DropLooks_loop0_step (p : Nat × List Look × Int × List Nat) (s : Int × List Look) : Round (Int × List Look) (List Look) :=
  let x0 := decide (s.1 < p.2.2.1);
  .ask x0
  (
   .need ((decide (0 ≤ s.1) && decide (s.1 < ((List.length p.2.1 : Nat) : Int)))) (
   let x1 := List.getD p.2.1 (Int.toNat s.1) default;
   .need ((decide (0 ≤ s.1) && decide (s.1 < ((List.length p.2.2.2 : Nat) : Int)))) (
   .need ((decide ((Int.toNat s.1) < List.length p.2.2.2))) (
   let x2 := List.getD p.2.2.2 (Int.toNat s.1) default;
   let x3 := fle .f32 x2 p.1;
   .ask x3
   (
    .need ((decide ((List.length s.2 + List.length [(⟨x1.Time, x1.Right, x1.Up, x1.Far, x1.Weight⟩ : Look)]) * 20 ≤ 140737488355328) && decide (List.length s.2 + List.length [(⟨x1.Time, x1.Right, x1.Up, x1.Far, x1.Weight⟩ : Look)] ≤ 9223372036854775807))) (
    let x4 := s.2 ++ [(⟨x1.Time, x1.Right, x1.Up, x1.Far, x1.Weight⟩ : Look)];
    let x5 := IntKind.wrap .i64 (s.1 + 1);
    .leaf (.inl (x5, x4), [0, 130])))
   (
    let x4 := IntKind.wrap .i64 (s.1 + 1);
    .leaf (.inl (x4, s.2), [0, 1]))))))
  (
   .leaf (.inr s.2, [1]))
def impl_DropLooks_loop0_L (p : Nat × List Look × Int × List Nat) : LoopS (Int × List Look) (List Look) := { tl := fun s => [.junk, .junk, .junk, .flt .f32 p.1, .junk, .junk, .junk, .junk, .junk, .junk, .own 0, .junk, .own 1, .junk, .junk, .junk, .junk, .junk, .junk, .junk, .junk, .junk, .junk, .junk, .junk, .vslc 3 .look p.2.1, .int .i64 p.2.2.1, .int .i64 s.1], hl := fun s => [some (.typed 24 (.flt .f32) p.2.2.2), some (.typed 33 .look s.2)], ex := fun r => .exit 0, otl := fun r => [.junk, .junk, .junk, .junk, .junk, .junk, .junk, .junk, .junk, .junk, .junk, .junk, .own 0], ohl := fun r => [some (.typed 33 .look r)] }
def impl_DropLooks_loop0_ext : St → Option ((Nat × List Look × Int × List Nat) × (Int × List Look) × List Nat) := fun S => match (S.tm 3).unK, (S.tm 10).unK, (S.tm 12).unK, (S.tm 25).unK, (S.tm 26).unK, (S.tm 27).unK with
  | .flt .f32 q0, .own i0, .own i1, .vslc 3 .look q1, .int .i64 q2, .int .i64 q3 => (match S.hp i0 with
    | some (.typed 24 (.flt .f32) q4) => (match S.hp i1 with
    | some (.typed 33 .look q5) => (if nodup [i0, i1] = true then some ((q0, q1, q2, q4), (q3, q5), [i0, i1]) else none)
    | _ => none)
    | _ => none)
  | _, _, _, _, _, _ => none
def impl_DropLooks_loop0_post (p : Nat × List Look × Int × List Nat) (r : List Look) : DT (Ex × St) := .leaf (.exit 0, LSt [.junk, .junk, .junk, .junk, .junk, .junk, .junk, .junk, .junk, .junk, .junk, .junk, .own 0] [some (.typed 33 .look r)])
def impl_DropLooks_loop0 (p : Nat × List Look × Int × List Nat) (s : Int × List Look) : List Look := loopVal (impl_DropLooks_loop0_step p) s
def impl_DropLooks_loop0_ends (p : Nat × List Look × Int × List Nat) (s : Int × List Look) : Bool := loopEnds (impl_DropLooks_loop0_step p) s
def impl_DropLooks_loop0_F : LoopF := loopF impl_DropLooks_loop0_step impl_DropLooks_loop0_ext impl_DropLooks_loop0_post
set_option maxRecDepth 100000 in
theorem impl_DropLooks_loop0_hext : ∀ S p s fl, impl_DropLooks_loop0_ext S = some (p, s, fl) → Norm S fl ((impl_DropLooks_loop0_L p).tl s) ((impl_DropLooks_loop0_L p).hl s) (impl_DropLooks_loop0_L p).gl := by
  intro S p s fl h
  unfold impl_DropLooks_loop0_ext at h
  (repeat' split at h) <;> first
    | (cases h; constructor <;> simp_all [impl_DropLooks_loop0_L, keepT, keepH, rens, renH, PV.ren, Blk.ren, fOf, lget, nodup, natIn, lenEq, gtm, PV.unK])
    | cases h
set_option maxRecDepth 100000 in
theorem impl_DropLooks_loop0_hpost : ∀ p r e S', (impl_DropLooks_loop0_post p r).get = some (e, S') → e = (impl_DropLooks_loop0_L p).ex r ∧ S' = LSt ((impl_DropLooks_loop0_L p).otl r) ((impl_DropLooks_loop0_L p).ohl r) ((impl_DropLooks_loop0_L p).ogl r) := by
  intro p r e S' h
  unfold impl_DropLooks_loop0_post at h
  simp only [DT.get, Option.some.injEq, Prod.mk.injEq] at h; exact ⟨h.1.symm, h.2.symm⟩

def impl_DropLooks_loops : Nat → Option LoopF := loopTab [(6, impl_DropLooks_loop0_F)]
set_option maxRecDepth 100000 in
theorem impl_DropLooks_l0 : LoopOK Tryz.prog ⟨gam [(38, impl_weighedOf_c)], tab, 44, impl_DropLooks_loops⟩ (lp Tryz.f21 0) :=
  loopOK_some (F := impl_DropLooks_loop0_F) (by kernel_rfl) (loopF_ok (E := ⟨gam [(38, impl_weighedOf_c)], tab, 44, impl_DropLooks_loops⟩) ⟨gam_cons impl_weighedOf_ok (gam_nil), tab_ok, by kernel_rfl⟩ (fuel := 100000) (loopsOK_list (l := []) (by kernel_rfl) trivial) (L := impl_DropLooks_loop0_L) (fun p s => by unfold AgreeL; exact ⟨by kernel_rfl, by kernel_rfl⟩) (fun _ _ h => Ex.noConfusion h) impl_DropLooks_loop0_hext impl_DropLooks_loop0_hpost)
/-- loop.example/g01284/impl.DropLooks -/
def impl_DropLooks_tree (a0 : Orbit) (a1 : Nat) (a2 : List Look) (a3 : Nat) : DT ((Unit) ⊕ (List Look)) :=
  .need ((impl_weighedOf_need (⟨a0.Long, a0.Round, a0.Tilt, a0.Node, a0.Peri, a0.Phase⟩ : Orbit) a1 a2)) (
  let x0 := impl_weighedOf (⟨a0.Long, a0.Round, a0.Tilt, a0.Node, a0.Peri, a0.Phase⟩ : Orbit) a1 a2;
  .ask ((isL x0))
  (
   .skip (
   .leaf (.inl ())))
  (
   .skip (
   let x1 := ((List.length a2 : Nat) : Int);
   .need ((impl_DropLooks_loop0_ends (a3, a2, x1, (rightD x0)) (0, []))) (
   let x2 := impl_DropLooks_loop0 (a3, a2, x1, (rightD x0)) (0, []);
   .leaf (.inr x2)))))
def impl_DropLooks (a0 : Orbit) (a1 : Nat) (a2 : List Look) (a3 : Nat) : (Unit) ⊕ (List Look) := (impl_DropLooks_tree a0 a1 a2 a3).val
def impl_DropLooks_need (a0 : Orbit) (a1 : Nat) (a2 : List Look) (a3 : Nat) : Bool := (impl_DropLooks_tree a0 a1 a2 a3).ok
def impl_DropLooks_mk0 (p : Unit) : Ret := ⟨.tup [.nils, .bool false], []⟩
def impl_DropLooks_mk1 (p : List Look) : Ret := ⟨.tup [.own 0, .bool true], [.typed 33 .look p]⟩
def impl_DropLooks_mk : (Unit) ⊕ (List Look) → Ret := fun v => match v with
  | (.inl p) => impl_DropLooks_mk0 p
  | (.inr p) => impl_DropLooks_mk1 p
def impl_DropLooks_forms (v : (Unit) ⊕ (List Look)) : DT Ret := .ask (isL v) (.leaf (impl_DropLooks_mk0 (leftD v))) (.leaf (impl_DropLooks_mk1 (rightD v)))
theorem impl_DropLooks_forms_get : ∀ v, (impl_DropLooks_forms v).get = some (impl_DropLooks_mk v) := by
  intro v
  rcases v with v | v <;> rfl
def impl_DropLooks_c0 : Con := fun args => match args with
  | [.agg [.flt .f32 a0_0, .flt .f32 a0_1, .flt .f32 a0_2, .flt .f32 a0_3, .flt .f32 a0_4, .flt .f32 a0_5], .flt .f32 a1, .vslc 3 .look a2, .flt .f32 a3] => some (.need (impl_DropLooks_need (⟨a0_0, a0_1, a0_2, a0_3, a0_4, a0_5⟩ : Orbit) a1 a2 a3) (impl_DropLooks_forms (impl_DropLooks (⟨a0_0, a0_1, a0_2, a0_3, a0_4, a0_5⟩ : Orbit) a1 a2 a3)))
  | _ => none
set_option maxRecDepth 100000 in
theorem impl_DropLooks_ok0 : FunOK Tryz.prog 21 impl_DropLooks_c0.fn := by
  refine con_ok (Γ := gam [(38, impl_weighedOf_c)]) (gam_cons impl_weighedOf_ok (gam_nil)) tab_ok (by kernel_rfl) Tryz.func21 (by kernel_rfl) (by kernel_rfl) Tryz.ntmps21 Tryz.results21 (loops := impl_DropLooks_loops) (loopsOK_list (l := [lp Tryz.f21 0]) (by kernel_rfl) ⟨impl_DropLooks_l0, trivial⟩) 100000 fun args t h => ?_
  unfold impl_DropLooks_c0 at h
  split at h
  · rename_i a0_0 a0_1 a0_2 a0_3 a0_4 a0_5 a1 a2 a3
    cases h
    exact ⟨rfl, agree_forms (mk := impl_DropLooks_mk) (t := impl_DropLooks_tree (⟨a0_0, a0_1, a0_2, a0_3, a0_4, a0_5⟩ : Orbit) a1 a2 a3) (by unfold Agree; kernel_rfl) (fun h => h) (impl_DropLooks_forms_get _)⟩
  · cases h
def impl_DropLooks_c : Con := fun args => impl_DropLooks_c0 (norms 0 [.none, .none, .slc .look, .none] args)
set_option maxRecDepth 100000 in
theorem impl_DropLooks_ok : FunOK Tryz.prog 21 impl_DropLooks_c.fn := con_norm [.none, .none, .slc .look, .none] impl_DropLooks_ok0

end
end Go.Proofs.YtfbnehkbialkaaaGreat
