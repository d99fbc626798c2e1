/- THE WALK, BY A PROGRAM: typed functions, and that the code is they. -/
import Derived.Test.YtcipkfndnkmjlaaDoorTab
namespace Go.Proofs.YtcipkfndnkmjlaaDoor
set_option linter.unusedVariables false
set_option linter.unusedSimpArgs false
open Go.Extern
noncomputable section

set_option maxRecDepth 100000 in
theorem internal_bytealg_IndexByteString_ok : FunOK Tryd.prog 174 internal_bytealg_IndexByteString_c.fn := indexByteString_ok (run_callFunc_extern Tryd.func174 (by kernel_rfl) (by kernel_rfl) (by kernel_rfl) (by kernel_rfl))

/-- internal/stringslite.IndexByte -/
def internal_stringslite_IndexByte_tree (a0 : (List UInt8)) (a1 : Int) : DT (Int) :=
  let x0 := Go.Lib.indexByte a0 (Nat.toUInt8 (Int.toNat a1));
  .leaf x0
def internal_stringslite_IndexByte (a0 : (List UInt8)) (a1 : Int) : Int := (internal_stringslite_IndexByte_tree a0 a1).val
def internal_stringslite_IndexByte_mk (p : Int) : Ret := ⟨.int .i64 p, []⟩
def internal_stringslite_IndexByte_c : Con := fun args => match args with
  | [.str a0, .int .u8 a1] => some (.leaf (internal_stringslite_IndexByte_mk (internal_stringslite_IndexByte a0 a1)))
  | _ => none
set_option maxRecDepth 100000 in
theorem internal_stringslite_IndexByte_ok : FunOK Tryd.prog 153 internal_stringslite_IndexByte_c.fn := by
  refine con_ok (Γ := gam [(174, internal_bytealg_IndexByteString_c)]) (gam_cons internal_bytealg_IndexByteString_ok (gam_nil)) tab_ok (by kernel_rfl) Tryd.func153 (by kernel_rfl) (by kernel_rfl) Tryd.ntmps153 Tryd.results153 (loopsOK_none rfl _) 100000 fun args t h => ?_
  unfold internal_stringslite_IndexByte_c at h
  split at h
  · rename_i a0 a1
    cases h
    exact ⟨rfl, agree_tot (mk := internal_stringslite_IndexByte_mk) (t := internal_stringslite_IndexByte_tree a0 a1) (by unfold Agree; kernel_rfl) (by kernel_rfl)⟩
  · cases h

-- FAILED 154 internal/bytealg.IndexString: no body

/-- internal/bytealg.Cutover -/
def internal_bytealg_Cutover_tree (a0 : Int) : DT (Int) :=
  let x0 := IntKind.wrap .i64 (a0 + 16);
  .skip (
  let x1 := IntKind.wrap .i64 (Int.tdiv x0 8);
  .leaf x1)
def internal_bytealg_Cutover (a0 : Int) : Int := (internal_bytealg_Cutover_tree a0).val
def internal_bytealg_Cutover_mk (p : Int) : Ret := ⟨.int .i64 p, []⟩
def internal_bytealg_Cutover_c : Con := fun args => match args with
  | [.int .i64 a0] => some (.leaf (internal_bytealg_Cutover_mk (internal_bytealg_Cutover a0)))
  | _ => none
set_option maxRecDepth 100000 in
theorem internal_bytealg_Cutover_ok : FunOK Tryd.prog 155 internal_bytealg_Cutover_c.fn := by
  refine con_ok (Γ := gam []) (gam_nil) tab_ok (by kernel_rfl) Tryd.func155 (by kernel_rfl) (by kernel_rfl) Tryd.ntmps155 Tryd.results155 (loopsOK_none rfl _) 100000 fun args t h => ?_
  unfold internal_bytealg_Cutover_c at h
  split at h
  · rename_i a0
    cases h
    exact ⟨rfl, agree_tot (mk := internal_bytealg_Cutover_mk) (t := internal_bytealg_Cutover_tree a0) (by unfold Agree; kernel_rfl) (by kernel_rfl)⟩
  · cases h

/-- a loop of internal_bytealg_hashStr_string_ -/
def internal_bytealg_hashStr_string__loop0_step (p : (List UInt8)) (s : Int × Int) : Round (Int × Int) (Int) :=
  let x0 := ((List.length p : Nat) : Int);
  let x1 := decide (s.2 < x0);
  .ask x1
  (
   let x2 := IntKind.wrap .u32 (s.1 * 16777619);
   .need ((decide (0 ≤ s.2) && decide (s.2 < ((List.length p : Nat) : Int)))) (
   let x3 := ((List.getD (p : List UInt8) (Int.toNat s.2) 0).toNat : Int);
   let x4 := IntKind.wrap .u32 x3;
   let x5 := IntKind.wrap .u32 (x2 + x4);
   let x6 := IntKind.wrap .i64 (s.2 + 1);
   .leaf (.inl (x5, x6), [])))
  (
   .leaf (.inr s.1, []))
def internal_bytealg_hashStr_string__loop0_L (p : (List UInt8)) : LoopS (Int × Int) (Int) := { tl := fun s => [.str p, .junk, .junk, .junk, .int .u32 s.1, .int .i64 s.2], hl := fun s => [], ex := fun r => .exit 0, otl := fun r => [.str p, .junk, .junk, .junk, .int .u32 r], ohl := fun r => [] }
def internal_bytealg_hashStr_string__loop0_ext : St → Option (((List UInt8)) × (Int × Int) × List Nat) := fun S => match (S.tm 0).unK, (S.tm 4).unK, (S.tm 5).unK with
  | .str q0, .int .u32 q1, .int .i64 q2 => some (q0, (q1, q2), [])
  | _, _, _ => none
def internal_bytealg_hashStr_string__loop0_post (p : (List UInt8)) (r : Int) : DT (Ex × St) := .leaf (.exit 0, LSt [.str p, .junk, .junk, .junk, .int .u32 r] [])
def internal_bytealg_hashStr_string__loop0 (p : (List UInt8)) (s : Int × Int) : Int := loopVal (internal_bytealg_hashStr_string__loop0_step p) s
def internal_bytealg_hashStr_string__loop0_ends (p : (List UInt8)) (s : Int × Int) : Bool := loopEnds (internal_bytealg_hashStr_string__loop0_step p) s
def internal_bytealg_hashStr_string__loop0_F : LoopF := loopF internal_bytealg_hashStr_string__loop0_step internal_bytealg_hashStr_string__loop0_ext internal_bytealg_hashStr_string__loop0_post
theorem internal_bytealg_hashStr_string__loop0_hext : ∀ S p s fl, internal_bytealg_hashStr_string__loop0_ext S = some (p, s, fl) → Norm S fl ((internal_bytealg_hashStr_string__loop0_L p).tl s) ((internal_bytealg_hashStr_string__loop0_L p).hl s) (internal_bytealg_hashStr_string__loop0_L p).gl := by
  intro S p s fl h
  unfold internal_bytealg_hashStr_string__loop0_ext at h
  (repeat' split at h) <;> first
    | (cases h; constructor <;> simp_all [internal_bytealg_hashStr_string__loop0_L, keepT, keepH, rens, renH, PV.ren, Blk.ren, fOf, lget, nodup, natIn, lenEq, gtm, PV.unK])
    | cases h
theorem internal_bytealg_hashStr_string__loop0_hpost : ∀ p r e S', (internal_bytealg_hashStr_string__loop0_post p r).get = some (e, S') → e = (internal_bytealg_hashStr_string__loop0_L p).ex r ∧ S' = LSt ((internal_bytealg_hashStr_string__loop0_L p).otl r) ((internal_bytealg_hashStr_string__loop0_L p).ohl r) ((internal_bytealg_hashStr_string__loop0_L p).ogl r) := by
  intro p r e S' h
  unfold internal_bytealg_hashStr_string__loop0_post at h
  simp only [DT.get, Option.some.injEq, Prod.mk.injEq] at h; exact ⟨h.1.symm, h.2.symm⟩

/-- a loop of internal_bytealg_hashStr_string_ -/
def internal_bytealg_hashStr_string__loop1_step (p : Int) (s : Int × Int × Int) : Round (Int × Int × Int) (Int) :=
  let x0 := decide (s.2.2 > 0);
  .ask x0
  (
   let x1 := IntKind.wrap .i64 (BitVec.ofInt (IntKind.bits .i64) s.2.2 &&& BitVec.ofInt (IntKind.bits .i64) 1).toNat;
   let x2 := (x1 != 0);
   .ask x2
   (
    let x3 := IntKind.wrap .u32 (s.1 * s.2.1);
    let x4 := IntKind.wrap .u32 (s.2.1 * s.2.1);
    .skip (
    let x5 := Int.fdiv s.2.2 (2 ^ (min (Int.toNat 1) (IntKind.bits .i64)));
    .leaf (.inl (x3, x4, x5), [])))
   (
    let x3 := IntKind.wrap .u32 (s.2.1 * s.2.1);
    .skip (
    let x4 := Int.fdiv s.2.2 (2 ^ (min (Int.toNat 1) (IntKind.bits .i64)));
    .leaf (.inl (s.1, x3, x4), []))))
  (
   .leaf (.inr s.1, []))
def internal_bytealg_hashStr_string__loop1_L (p : Int) : LoopS (Int × Int × Int) (Int) := { tl := fun s => [.junk, .junk, .junk, .junk, .int .u32 p, .junk, .int .u32 s.1, .int .u32 s.2.1, .int .i64 s.2.2], hl := fun s => [], ex := fun r => .exit 2, otl := fun r => [.junk, .junk, .junk, .junk, .int .u32 p, .junk, .int .u32 r], ohl := fun r => [] }
def internal_bytealg_hashStr_string__loop1_ext : St → Option ((Int) × (Int × Int × Int) × List Nat) := fun S => match (S.tm 4).unK, (S.tm 6).unK, (S.tm 7).unK, (S.tm 8).unK with
  | .int .u32 q0, .int .u32 q1, .int .u32 q2, .int .i64 q3 => some (q0, (q1, q2, q3), [])
  | _, _, _, _ => none
def internal_bytealg_hashStr_string__loop1_post (p : Int) (r : Int) : DT (Ex × St) := .leaf (.exit 2, LSt [.junk, .junk, .junk, .junk, .int .u32 p, .junk, .int .u32 r] [])
def internal_bytealg_hashStr_string__loop1 (p : Int) (s : Int × Int × Int) : Int := loopVal (internal_bytealg_hashStr_string__loop1_step p) s
def internal_bytealg_hashStr_string__loop1_ends (p : Int) (s : Int × Int × Int) : Bool := loopEnds (internal_bytealg_hashStr_string__loop1_step p) s
def internal_bytealg_hashStr_string__loop1_F : LoopF := loopF internal_bytealg_hashStr_string__loop1_step internal_bytealg_hashStr_string__loop1_ext internal_bytealg_hashStr_string__loop1_post
theorem internal_bytealg_hashStr_string__loop1_hext : ∀ S p s fl, internal_bytealg_hashStr_string__loop1_ext S = some (p, s, fl) → Norm S fl ((internal_bytealg_hashStr_string__loop1_L p).tl s) ((internal_bytealg_hashStr_string__loop1_L p).hl s) (internal_bytealg_hashStr_string__loop1_L p).gl := by
  intro S p s fl h
  unfold internal_bytealg_hashStr_string__loop1_ext at h
  (repeat' split at h) <;> first
    | (cases h; constructor <;> simp_all [internal_bytealg_hashStr_string__loop1_L, keepT, keepH, rens, renH, PV.ren, Blk.ren, fOf, lget, nodup, natIn, lenEq, gtm, PV.unK])
    | cases h
theorem internal_bytealg_hashStr_string__loop1_hpost : ∀ p r e S', (internal_bytealg_hashStr_string__loop1_post p r).get = some (e, S') → e = (internal_bytealg_hashStr_string__loop1_L p).ex r ∧ S' = LSt ((internal_bytealg_hashStr_string__loop1_L p).otl r) ((internal_bytealg_hashStr_string__loop1_L p).ohl r) ((internal_bytealg_hashStr_string__loop1_L p).ogl r) := by
  intro p r e S' h
  unfold internal_bytealg_hashStr_string__loop1_post at h
  simp only [DT.get, Option.some.injEq, Prod.mk.injEq] at h; exact ⟨h.1.symm, h.2.symm⟩

def internal_bytealg_hashStr_string__loops : Nat → Option LoopF := loopTab [(3, internal_bytealg_hashStr_string__loop0_F), (8, internal_bytealg_hashStr_string__loop1_F)]
set_option maxRecDepth 100000 in
theorem internal_bytealg_hashStr_string__l1 : LoopOK Tryd.prog ⟨gam [], tab, 39, internal_bytealg_hashStr_string__loops⟩ (lp Tryd.f175 1) :=
  loopOK_some (F := internal_bytealg_hashStr_string__loop1_F) (by kernel_rfl) (loopF_ok (E := ⟨gam [], tab, 39, internal_bytealg_hashStr_string__loops⟩) ⟨gam_nil, tab_ok, by kernel_rfl⟩ (fuel := 100000) (loopsOK_list (l := []) (by kernel_rfl) trivial) (L := internal_bytealg_hashStr_string__loop1_L) (fun p s => by unfold AgreeL; exact ⟨by kernel_rfl, by kernel_rfl⟩) (fun _ _ h => Ex.noConfusion h) internal_bytealg_hashStr_string__loop1_hext internal_bytealg_hashStr_string__loop1_hpost)
set_option maxRecDepth 100000 in
theorem internal_bytealg_hashStr_string__l0 : LoopOK Tryd.prog ⟨gam [], tab, 39, internal_bytealg_hashStr_string__loops⟩ (lp Tryd.f175 0) :=
  loopOK_some (F := internal_bytealg_hashStr_string__loop0_F) (by kernel_rfl) (loopF_ok (E := ⟨gam [], tab, 39, internal_bytealg_hashStr_string__loops⟩) ⟨gam_nil, tab_ok, by kernel_rfl⟩ (fuel := 100000) (loopsOK_list (l := []) (by kernel_rfl) trivial) (L := internal_bytealg_hashStr_string__loop0_L) (fun p s => by unfold AgreeL; exact ⟨by kernel_rfl, by kernel_rfl⟩) (fun _ _ h => Ex.noConfusion h) internal_bytealg_hashStr_string__loop0_hext internal_bytealg_hashStr_string__loop0_hpost)
/-- internal/bytealg.hashStr[string] -/
def internal_bytealg_hashStr_string__tree (a0 : (List UInt8)) : DT (Int × Int) :=
  .need ((internal_bytealg_hashStr_string__loop0_ends a0 (0, 0))) (
  let x0 := internal_bytealg_hashStr_string__loop0 a0 (0, 0);
  let x1 := ((List.length a0 : Nat) : Int);
  .need ((internal_bytealg_hashStr_string__loop1_ends x0 (1, 16777619, x1))) (
  let x2 := internal_bytealg_hashStr_string__loop1 x0 (1, 16777619, x1);
  .leaf (x0, x2)))
def internal_bytealg_hashStr_string_ (a0 : (List UInt8)) : Int × Int := (internal_bytealg_hashStr_string__tree a0).val
def internal_bytealg_hashStr_string__need (a0 : (List UInt8)) : Bool := (internal_bytealg_hashStr_string__tree a0).ok
def internal_bytealg_hashStr_string__mk (p : Int × Int) : Ret := ⟨.tup [.int .u32 p.1, .int .u32 p.2], []⟩
def internal_bytealg_hashStr_string__c : Con := fun args => match args with
  | [.str a0] => some (.need (internal_bytealg_hashStr_string__need a0) (.leaf (internal_bytealg_hashStr_string__mk (internal_bytealg_hashStr_string_ a0))))
  | _ => none
set_option maxRecDepth 100000 in
theorem internal_bytealg_hashStr_string__ok : FunOK Tryd.prog 175 internal_bytealg_hashStr_string__c.fn := by
  refine con_ok (Γ := gam []) (gam_nil) tab_ok (by kernel_rfl) Tryd.func175 (by kernel_rfl) (by kernel_rfl) Tryd.ntmps175 Tryd.results175 (loops := internal_bytealg_hashStr_string__loops) (loopsOK_list (l := [lp Tryd.f175 0, lp Tryd.f175 1]) (by kernel_rfl) ⟨internal_bytealg_hashStr_string__l0, ⟨internal_bytealg_hashStr_string__l1, trivial⟩⟩) 100000 fun args t h => ?_
  unfold internal_bytealg_hashStr_string__c at h
  split at h
  · rename_i a0
    cases h
    exact ⟨rfl, agree_need (mk := internal_bytealg_hashStr_string__mk) (t := internal_bytealg_hashStr_string__tree a0) (by unfold Agree; kernel_rfl)⟩
  · cases h

/-- a loop of internal_bytealg_IndexRabinKarp_string_ -/
def internal_bytealg_IndexRabinKarp_string__loop0_step (p : (List UInt8) × (List UInt8) × Int × Int × Int) (s : Int × Int) : Round (Int × Int) (Int) :=
  let x0 := decide (s.2 < p.2.2.2.2);
  .ask x0
  (
   let x1 := IntKind.wrap .u32 (s.1 * 16777619);
   .need ((decide (0 ≤ s.2) && decide (s.2 < ((List.length p.1 : Nat) : Int)))) (
   let x2 := ((List.getD (p.1 : List UInt8) (Int.toNat s.2) 0).toNat : Int);
   let x3 := IntKind.wrap .u32 x2;
   let x4 := IntKind.wrap .u32 (x1 + x3);
   let x5 := IntKind.wrap .i64 (s.2 + 1);
   .leaf (.inl (x4, x5), [])))
  (
   .leaf (.inr s.1, []))
def internal_bytealg_IndexRabinKarp_string__loop0_L (p : (List UInt8) × (List UInt8) × Int × Int × Int) : LoopS (Int × Int) (Int) := { tl := fun s => [.str p.1, .str p.2.1, .junk, .junk, .junk, .int .u32 p.2.2.1, .int .u32 p.2.2.2.1, .int .i64 p.2.2.2.2, .int .u32 s.1, .int .i64 s.2], hl := fun s => [], ex := fun r => .exit 0, otl := fun r => [.str p.1, .str p.2.1, .junk, .junk, .junk, .int .u32 p.2.2.1, .int .u32 p.2.2.2.1, .int .i64 p.2.2.2.2, .int .u32 r], ohl := fun r => [] }
def internal_bytealg_IndexRabinKarp_string__loop0_ext : St → Option (((List UInt8) × (List UInt8) × Int × Int × Int) × (Int × Int) × List Nat) := fun S => match (S.tm 0).unK, (S.tm 1).unK, (S.tm 5).unK, (S.tm 6).unK, (S.tm 7).unK, (S.tm 8).unK, (S.tm 9).unK with
  | .str q0, .str q1, .int .u32 q2, .int .u32 q3, .int .i64 q4, .int .u32 q5, .int .i64 q6 => some ((q0, q1, q2, q3, q4), (q5, q6), [])
  | _, _, _, _, _, _, _ => none
def internal_bytealg_IndexRabinKarp_string__loop0_post (p : (List UInt8) × (List UInt8) × Int × Int × Int) (r : Int) : DT (Ex × St) := .leaf (.exit 0, LSt [.str p.1, .str p.2.1, .junk, .junk, .junk, .int .u32 p.2.2.1, .int .u32 p.2.2.2.1, .int .i64 p.2.2.2.2, .int .u32 r] [])
def internal_bytealg_IndexRabinKarp_string__loop0 (p : (List UInt8) × (List UInt8) × Int × Int × Int) (s : Int × Int) : Int := loopVal (internal_bytealg_IndexRabinKarp_string__loop0_step p) s
def internal_bytealg_IndexRabinKarp_string__loop0_ends (p : (List UInt8) × (List UInt8) × Int × Int × Int) (s : Int × Int) : Bool := loopEnds (internal_bytealg_IndexRabinKarp_string__loop0_step p) s
def internal_bytealg_IndexRabinKarp_string__loop0_F : LoopF := loopF internal_bytealg_IndexRabinKarp_string__loop0_step internal_bytealg_IndexRabinKarp_string__loop0_ext internal_bytealg_IndexRabinKarp_string__loop0_post
theorem internal_bytealg_IndexRabinKarp_string__loop0_hext : ∀ S p s fl, internal_bytealg_IndexRabinKarp_string__loop0_ext S = some (p, s, fl) → Norm S fl ((internal_bytealg_IndexRabinKarp_string__loop0_L p).tl s) ((internal_bytealg_IndexRabinKarp_string__loop0_L p).hl s) (internal_bytealg_IndexRabinKarp_string__loop0_L p).gl := by
  intro S p s fl h
  unfold internal_bytealg_IndexRabinKarp_string__loop0_ext at h
  (repeat' split at h) <;> first
    | (cases h; constructor <;> simp_all [internal_bytealg_IndexRabinKarp_string__loop0_L, keepT, keepH, rens, renH, PV.ren, Blk.ren, fOf, lget, nodup, natIn, lenEq, gtm, PV.unK])
    | cases h
theorem internal_bytealg_IndexRabinKarp_string__loop0_hpost : ∀ p r e S', (internal_bytealg_IndexRabinKarp_string__loop0_post p r).get = some (e, S') → e = (internal_bytealg_IndexRabinKarp_string__loop0_L p).ex r ∧ S' = LSt ((internal_bytealg_IndexRabinKarp_string__loop0_L p).otl r) ((internal_bytealg_IndexRabinKarp_string__loop0_L p).ohl r) ((internal_bytealg_IndexRabinKarp_string__loop0_L p).ogl r) := by
  intro p r e S' h
  unfold internal_bytealg_IndexRabinKarp_string__loop0_post at h
  simp only [DT.get, Option.some.injEq, Prod.mk.injEq] at h; exact ⟨h.1.symm, h.2.symm⟩

/-- a loop of internal_bytealg_IndexRabinKarp_string_ -/
def internal_bytealg_IndexRabinKarp_string__loop1_step (p : (List UInt8) × (List UInt8) × Int × Int × Int) (s : Int × Int) : Round (Int × Int) ((Int) ⊕ (Unit)) :=
  let x0 := ((List.length p.1 : Nat) : Int);
  let x1 := decide (s.2 < x0);
  .ask x1
  (
   let x2 := IntKind.wrap .u32 (s.1 * 16777619);
   .need ((decide (0 ≤ s.2) && decide (s.2 < ((List.length p.1 : Nat) : Int)))) (
   let x3 := ((List.getD (p.1 : List UInt8) (Int.toNat s.2) 0).toNat : Int);
   let x4 := IntKind.wrap .u32 x3;
   let x5 := IntKind.wrap .u32 (x2 + x4);
   let x6 := IntKind.wrap .i64 (s.2 - p.2.2.2.2);
   .need ((decide (0 ≤ x6) && decide (x6 < ((List.length p.1 : Nat) : Int)))) (
   let x7 := ((List.getD (p.1 : List UInt8) (Int.toNat x6) 0).toNat : Int);
   let x8 := IntKind.wrap .u32 x7;
   let x9 := IntKind.wrap .u32 (p.2.2.2.1 * x8);
   let x10 := IntKind.wrap .u32 (x5 - x9);
   let x11 := IntKind.wrap .i64 (s.2 + 1);
   let x12 := (x10 == p.2.2.1);
   .ask x12
   (
    let x13 := IntKind.wrap .i64 (x11 - p.2.2.2.2);
    .need ((decide (0 ≤ x11) && decide (x11 ≤ ((List.length p.1 : Nat) : Int)))) (
    .need ((decide (0 ≤ x13) && decide (x13 ≤ (((Int.toNat x11) : Nat) : Int)))) (
    let x14 := List.drop (Int.toNat x13) (List.take (Int.toNat x11) p.1);
    let x15 := (x14 == p.2.1);
    .ask x15
    (
     let x16 := IntKind.wrap .i64 (x11 - p.2.2.2.2);
     .leaf (.inr (.inl x16), []))
    (
     .leaf (.inl (x10, x11), [])))))
   (
    .leaf (.inl (x10, x11), [])))))
  (
   .leaf (.inr (.inr ()), []))
def internal_bytealg_IndexRabinKarp_string__loop1_L (p : (List UInt8) × (List UInt8) × Int × Int × Int) : LoopS (Int × Int) ((Int) ⊕ (Unit)) := { tl := fun s => [.str p.1, .str p.2.1, .junk, .junk, .junk, .int .u32 p.2.2.1, .int .u32 p.2.2.2.1, .int .i64 p.2.2.2.2, .int .u32 s.1, .junk, .int .i64 s.2], hl := fun s => [], ex := fun r => match r with | .inl r => .ret | .inr r => .exit 2, otl := fun r => match r with | .inl r => [.junk, .junk, .junk, .junk, .int .i64 r] | .inr r => [.junk], ohl := fun r => match r with | .inl r => [] | .inr r => [] }
def internal_bytealg_IndexRabinKarp_string__loop1_ext : St → Option (((List UInt8) × (List UInt8) × Int × Int × Int) × (Int × Int) × List Nat) := fun S => match (S.tm 0).unK, (S.tm 1).unK, (S.tm 5).unK, (S.tm 6).unK, (S.tm 7).unK, (S.tm 8).unK, (S.tm 10).unK with
  | .str q0, .str q1, .int .u32 q2, .int .u32 q3, .int .i64 q4, .int .u32 q5, .int .i64 q6 => some ((q0, q1, q2, q3, q4), (q5, q6), [])
  | _, _, _, _, _, _, _ => none
def internal_bytealg_IndexRabinKarp_string__loop1_post (p : (List UInt8) × (List UInt8) × Int × Int × Int) (r : (Int) ⊕ (Unit)) : DT (Ex × St) := .ask (isL r) (.leaf (.ret, LSt [.junk, .junk, .junk, .junk, .int .i64 ((leftD r))] [])) (.leaf (.exit 2, LSt [.junk] []))
def internal_bytealg_IndexRabinKarp_string__loop1 (p : (List UInt8) × (List UInt8) × Int × Int × Int) (s : Int × Int) : (Int) ⊕ (Unit) := loopVal (internal_bytealg_IndexRabinKarp_string__loop1_step p) s
def internal_bytealg_IndexRabinKarp_string__loop1_ends (p : (List UInt8) × (List UInt8) × Int × Int × Int) (s : Int × Int) : Bool := loopEnds (internal_bytealg_IndexRabinKarp_string__loop1_step p) s
def internal_bytealg_IndexRabinKarp_string__loop1_F : LoopF := loopF internal_bytealg_IndexRabinKarp_string__loop1_step internal_bytealg_IndexRabinKarp_string__loop1_ext internal_bytealg_IndexRabinKarp_string__loop1_post
theorem internal_bytealg_IndexRabinKarp_string__loop1_hext : ∀ S p s fl, internal_bytealg_IndexRabinKarp_string__loop1_ext S = some (p, s, fl) → Norm S fl ((internal_bytealg_IndexRabinKarp_string__loop1_L p).tl s) ((internal_bytealg_IndexRabinKarp_string__loop1_L p).hl s) (internal_bytealg_IndexRabinKarp_string__loop1_L p).gl := by
  intro S p s fl h
  unfold internal_bytealg_IndexRabinKarp_string__loop1_ext at h
  (repeat' split at h) <;> first
    | (cases h; constructor <;> simp_all [internal_bytealg_IndexRabinKarp_string__loop1_L, keepT, keepH, rens, renH, PV.ren, Blk.ren, fOf, lget, nodup, natIn, lenEq, gtm, PV.unK])
    | cases h
theorem internal_bytealg_IndexRabinKarp_string__loop1_hpost : ∀ p r e S', (internal_bytealg_IndexRabinKarp_string__loop1_post p r).get = some (e, S') → e = (internal_bytealg_IndexRabinKarp_string__loop1_L p).ex r ∧ S' = LSt ((internal_bytealg_IndexRabinKarp_string__loop1_L p).otl r) ((internal_bytealg_IndexRabinKarp_string__loop1_L p).ohl r) ((internal_bytealg_IndexRabinKarp_string__loop1_L p).ogl r) := by
  intro p r e S' h
  unfold internal_bytealg_IndexRabinKarp_string__loop1_post at h
  cases r <;> (simp only [isL, DT.get, Option.some.injEq, Prod.mk.injEq] at h; exact ⟨h.1.symm, h.2.symm⟩)

def internal_bytealg_IndexRabinKarp_string__loops : Nat → Option LoopF := loopTab [(5, internal_bytealg_IndexRabinKarp_string__loop0_F), (11, internal_bytealg_IndexRabinKarp_string__loop1_F)]
set_option maxRecDepth 100000 in
theorem internal_bytealg_IndexRabinKarp_string__l1 : LoopOK Tryd.prog ⟨gam [(175, internal_bytealg_hashStr_string__c)], tab, 81, internal_bytealg_IndexRabinKarp_string__loops⟩ (lp Tryd.f156 1) :=
  loopOK_some (F := internal_bytealg_IndexRabinKarp_string__loop1_F) (by kernel_rfl) (loopF_ok (E := ⟨gam [(175, internal_bytealg_hashStr_string__c)], tab, 81, internal_bytealg_IndexRabinKarp_string__loops⟩) ⟨gam_cons internal_bytealg_hashStr_string__ok (gam_nil), tab_ok, by kernel_rfl⟩ (fuel := 100000) (loopsOK_list (l := []) (by kernel_rfl) trivial) (L := internal_bytealg_IndexRabinKarp_string__loop1_L) (fun p s => by unfold AgreeL; exact ⟨by kernel_rfl, by kernel_rfl⟩) (fun _ r h => by cases r <;> exact Ex.noConfusion h) internal_bytealg_IndexRabinKarp_string__loop1_hext internal_bytealg_IndexRabinKarp_string__loop1_hpost)
set_option maxRecDepth 100000 in
theorem internal_bytealg_IndexRabinKarp_string__l0 : LoopOK Tryd.prog ⟨gam [(175, internal_bytealg_hashStr_string__c)], tab, 81, internal_bytealg_IndexRabinKarp_string__loops⟩ (lp Tryd.f156 0) :=
  loopOK_some (F := internal_bytealg_IndexRabinKarp_string__loop0_F) (by kernel_rfl) (loopF_ok (E := ⟨gam [(175, internal_bytealg_hashStr_string__c)], tab, 81, internal_bytealg_IndexRabinKarp_string__loops⟩) ⟨gam_cons internal_bytealg_hashStr_string__ok (gam_nil), tab_ok, by kernel_rfl⟩ (fuel := 100000) (loopsOK_list (l := []) (by kernel_rfl) trivial) (L := internal_bytealg_IndexRabinKarp_string__loop0_L) (fun p s => by unfold AgreeL; exact ⟨by kernel_rfl, by kernel_rfl⟩) (fun _ _ h => Ex.noConfusion h) internal_bytealg_IndexRabinKarp_string__loop0_hext internal_bytealg_IndexRabinKarp_string__loop0_hpost)
/-- internal/bytealg.IndexRabinKarp[string] -/
def internal_bytealg_IndexRabinKarp_string__tree (a0 : (List UInt8)) (a1 : (List UInt8)) : DT (Int) :=
  .need ((internal_bytealg_hashStr_string__need a1)) (
  let x0 := internal_bytealg_hashStr_string_ a1;
  let x1 := ((List.length a1 : Nat) : Int);
  .need ((internal_bytealg_IndexRabinKarp_string__loop0_ends (a0, a1, x0.1, x0.2, x1) (0, 0))) (
  let x2 := internal_bytealg_IndexRabinKarp_string__loop0 (a0, a1, x0.1, x0.2, x1) (0, 0);
  let x3 := (x2 == x0.1);
  .ask x3
  (
   .need ((decide (0 ≤ x1) && decide (x1 ≤ ((List.length a0 : Nat) : Int)))) (
   let x4 := List.drop 0 (List.take (Int.toNat x1) a0);
   let x5 := (x4 == a1);
   .ask x5
   (
    .leaf 0)
   (
    .need ((internal_bytealg_IndexRabinKarp_string__loop1_ends (a0, a1, x0.1, x0.2, x1) (x2, x1))) (
    let x6 := internal_bytealg_IndexRabinKarp_string__loop1 (a0, a1, x0.1, x0.2, x1) (x2, x1);
    .ask ((isL x6))
    (
     .leaf ((leftD x6)))
    (
     .leaf (-1))))))
  (
   .need ((internal_bytealg_IndexRabinKarp_string__loop1_ends (a0, a1, x0.1, x0.2, x1) (x2, x1))) (
   let x4 := internal_bytealg_IndexRabinKarp_string__loop1 (a0, a1, x0.1, x0.2, x1) (x2, x1);
   .ask ((isL x4))
   (
    .leaf ((leftD x4)))
   (
    .leaf (-1))))))
def internal_bytealg_IndexRabinKarp_string_ (a0 : (List UInt8)) (a1 : (List UInt8)) : Int := (internal_bytealg_IndexRabinKarp_string__tree a0 a1).val
def internal_bytealg_IndexRabinKarp_string__need (a0 : (List UInt8)) (a1 : (List UInt8)) : Bool := (internal_bytealg_IndexRabinKarp_string__tree a0 a1).ok
def internal_bytealg_IndexRabinKarp_string__mk (p : Int) : Ret := ⟨.int .i64 p, []⟩
def internal_bytealg_IndexRabinKarp_string__c : Con := fun args => match args with
  | [.str a0, .str a1] => some (.need (internal_bytealg_IndexRabinKarp_string__need a0 a1) (.leaf (internal_bytealg_IndexRabinKarp_string__mk (internal_bytealg_IndexRabinKarp_string_ a0 a1))))
  | _ => none
set_option maxRecDepth 100000 in
theorem internal_bytealg_IndexRabinKarp_string__ok : FunOK Tryd.prog 156 internal_bytealg_IndexRabinKarp_string__c.fn := by
  refine con_ok (Γ := gam [(175, internal_bytealg_hashStr_string__c)]) (gam_cons internal_bytealg_hashStr_string__ok (gam_nil)) tab_ok (by kernel_rfl) Tryd.func156 (by kernel_rfl) (by kernel_rfl) Tryd.ntmps156 Tryd.results156 (loops := internal_bytealg_IndexRabinKarp_string__loops) (loopsOK_list (l := [lp Tryd.f156 0, lp Tryd.f156 1]) (by kernel_rfl) ⟨internal_bytealg_IndexRabinKarp_string__l0, ⟨internal_bytealg_IndexRabinKarp_string__l1, trivial⟩⟩) 100000 fun args t h => ?_
  unfold internal_bytealg_IndexRabinKarp_string__c at h
  split at h
  · rename_i a0 a1
    cases h
    exact ⟨rfl, agree_need (mk := internal_bytealg_IndexRabinKarp_string__mk) (t := internal_bytealg_IndexRabinKarp_string__tree a0 a1) (by unfold Agree; kernel_rfl)⟩
  · cases h

-- FAILED 140 internal/stringslite.Index: global

-- FAILED 118 strings.Index: no contract: internal/stringslite.Index 

-- FAILED 80 strings.Contains: no contract: strings.Index 

/-- a loop of impl_check -/
def impl_check_loop0_step (p : (List UInt8) × Int) (s : Int × Int) : Round (Int × Int) (Int) :=
  let x0 := decide (s.2 < p.2);
  .ask x0
  (
   let x1 := IntKind.wrap .i64 (809 * s.1);
   .need ((decide (0 ≤ s.2) && decide (s.2 < ((List.length p.1 : Nat) : Int)))) (
   let x2 := ((List.getD (p.1 : List UInt8) (Int.toNat s.2) 0).toNat : Int);
   let x3 := IntKind.wrap .i64 x2;
   let x4 := IntKind.wrap .i64 (x1 + x3);
   let x5 := IntKind.wrap .i64 (x4 + 103);
   .skip (
   let x6 := Int.tmod x5 65003;
   let x7 := IntKind.wrap .i64 (s.2 + 1);
   .leaf (.inl (x6, x7), []))))
  (
   .leaf (.inr s.1, []))
def impl_check_loop0_L (p : (List UInt8) × Int) : LoopS (Int × Int) (Int) := { tl := fun s => [.int .i64 s.1, .str p.1, .junk, .junk, .junk, .junk, .junk, .int .i64 p.2, .int .i64 s.2], hl := fun s => [], ex := fun r => .exit 0, otl := fun r => [.int .i64 r], ohl := fun r => [] }
def impl_check_loop0_ext : St → Option (((List UInt8) × Int) × (Int × Int) × List Nat) := fun S => match (S.tm 0).unK, (S.tm 1).unK, (S.tm 7).unK, (S.tm 8).unK with
  | .int .i64 q0, .str q1, .int .i64 q2, .int .i64 q3 => some ((q1, q2), (q0, q3), [])
  | _, _, _, _ => none
def impl_check_loop0_post (p : (List UInt8) × Int) (r : Int) : DT (Ex × St) := .leaf (.exit 0, LSt [.int .i64 r] [])
def impl_check_loop0 (p : (List UInt8) × Int) (s : Int × Int) : Int := loopVal (impl_check_loop0_step p) s
def impl_check_loop0_ends (p : (List UInt8) × Int) (s : Int × Int) : Bool := loopEnds (impl_check_loop0_step p) s
def impl_check_loop0_F : LoopF := loopF impl_check_loop0_step impl_check_loop0_ext impl_check_loop0_post
theorem impl_check_loop0_hext : ∀ S p s fl, impl_check_loop0_ext S = some (p, s, fl) → Norm S fl ((impl_check_loop0_L p).tl s) ((impl_check_loop0_L p).hl s) (impl_check_loop0_L p).gl := by
  intro S p s fl h
  unfold impl_check_loop0_ext at h
  (repeat' split at h) <;> first
    | (cases h; constructor <;> simp_all [impl_check_loop0_L, keepT, keepH, rens, renH, PV.ren, Blk.ren, fOf, lget, nodup, natIn, lenEq, gtm, PV.unK])
    | cases h
theorem impl_check_loop0_hpost : ∀ p r e S', (impl_check_loop0_post p r).get = some (e, S') → e = (impl_check_loop0_L p).ex r ∧ S' = LSt ((impl_check_loop0_L p).otl r) ((impl_check_loop0_L p).ohl r) ((impl_check_loop0_L p).ogl r) := by
  intro p r e S' h
  unfold impl_check_loop0_post at h
  simp only [DT.get, Option.some.injEq, Prod.mk.injEq] at h; exact ⟨h.1.symm, h.2.symm⟩

def impl_check_loops : Nat → Option LoopF := loopTab [(2, impl_check_loop0_F)]
set_option maxRecDepth 100000 in
theorem impl_check_l0 : LoopOK Tryd.prog ⟨gam [], tab, 22, impl_check_loops⟩ (lp Tryd.f82 0) :=
  loopOK_some (F := impl_check_loop0_F) (by kernel_rfl) (loopF_ok (E := ⟨gam [], tab, 22, impl_check_loops⟩) ⟨gam_nil, tab_ok, by kernel_rfl⟩ (fuel := 100000) (loopsOK_list (l := []) (by kernel_rfl) trivial) (L := impl_check_loop0_L) (fun p s => by unfold AgreeL; exact ⟨by kernel_rfl, by kernel_rfl⟩) (fun _ _ h => Ex.noConfusion h) impl_check_loop0_hext impl_check_loop0_hpost)
/-- loop.example/g01284/impl.check -/
def impl_check_tree (a0 : Int) (a1 : (List UInt8)) : DT (Int) :=
  let x0 := ((List.length a1 : Nat) : Int);
  .need ((impl_check_loop0_ends (a1, x0) (a0, 0))) (
  let x1 := impl_check_loop0 (a1, x0) (a0, 0);
  .leaf x1)
def impl_check (a0 : Int) (a1 : (List UInt8)) : Int := (impl_check_tree a0 a1).val
def impl_check_need (a0 : Int) (a1 : (List UInt8)) : Bool := (impl_check_tree a0 a1).ok
def impl_check_mk (p : Int) : Ret := ⟨.int .i64 p, []⟩
def impl_check_c : Con := fun args => match args with
  | [.int .i64 a0, .str a1] => some (.need (impl_check_need a0 a1) (.leaf (impl_check_mk (impl_check a0 a1))))
  | _ => none
set_option maxRecDepth 100000 in
theorem impl_check_ok : FunOK Tryd.prog 82 impl_check_c.fn := by
  refine con_ok (Γ := gam []) (gam_nil) tab_ok (by kernel_rfl) Tryd.func82 (by kernel_rfl) (by kernel_rfl) Tryd.ntmps82 Tryd.results82 (loops := impl_check_loops) (loopsOK_list (l := [lp Tryd.f82 0]) (by kernel_rfl) ⟨impl_check_l0, trivial⟩) 100000 fun args t h => ?_
  unfold impl_check_c at h
  split at h
  · rename_i a0 a1
    cases h
    exact ⟨rfl, agree_need (mk := impl_check_mk) (t := impl_check_tree a0 a1) (by unfold Agree; kernel_rfl)⟩
  · cases h

/-- internal/strconv.small -/
def internal_strconv_small_tree (a0 : Int) : DT ((List UInt8)) :=
  let x0 := decide (a0 < 10);
  .ask x0
  (
   let x1 := IntKind.wrap .i64 (a0 + 1);
   .need ((decide (0 ≤ x1) && decide (x1 ≤ ((List.length [48, 49, 50, 51, 52, 53, 54, 55, 56, 57, 97, 98, 99, 100, 101, 102, 103, 104, 105, 106, 107, 108, 109, 110, 111, 112, 113, 114, 115, 116, 117, 118, 119, 120, 121, 122] : Nat) : Int)))) (
   .need ((decide (0 ≤ a0) && decide (a0 ≤ (((Int.toNat x1) : Nat) : Int)))) (
   let x2 := List.drop (Int.toNat a0) (List.take (Int.toNat x1) [48, 49, 50, 51, 52, 53, 54, 55, 56, 57, 97, 98, 99, 100, 101, 102, 103, 104, 105, 106, 107, 108, 109, 110, 111, 112, 113, 114, 115, 116, 117, 118, 119, 120, 121, 122]);
   .leaf x2)))
  (
   let x1 := IntKind.wrap .i64 (a0 * 2);
   let x2 := IntKind.wrap .i64 (a0 * 2);
   let x3 := IntKind.wrap .i64 (x2 + 2);
   .need ((decide (0 ≤ x3) && decide (x3 ≤ ((List.length [48, 48, 48, 49, 48, 50, 48, 51, 48, 52, 48, 53, 48, 54, 48, 55, 48, 56, 48, 57, 49, 48, 49, 49, 49, 50, 49, 51, 49, 52, 49, 53, 49, 54, 49, 55, 49, 56, 49, 57, 50, 48, 50, 49, 50, 50, 50, 51, 50, 52, 50, 53, 50, 54, 50, 55, 50, 56, 50, 57, 51, 48, 51, 49, 51, 50, 51, 51, 51, 52, 51, 53, 51, 54, 51, 55, 51, 56, 51, 57, 52, 48, 52, 49, 52, 50, 52, 51, 52, 52, 52, 53, 52, 54, 52, 55, 52, 56, 52, 57, 53, 48, 53, 49, 53, 50, 53, 51, 53, 52, 53, 53, 53, 54, 53, 55, 53, 56, 53, 57, 54, 48, 54, 49, 54, 50, 54, 51, 54, 52, 54, 53, 54, 54, 54, 55, 54, 56, 54, 57, 55, 48, 55, 49, 55, 50, 55, 51, 55, 52, 55, 53, 55, 54, 55, 55, 55, 56, 55, 57, 56, 48, 56, 49, 56, 50, 56, 51, 56, 52, 56, 53, 56, 54, 56, 55, 56, 56, 56, 57, 57, 48, 57, 49, 57, 50, 57, 51, 57, 52, 57, 53, 57, 54, 57, 55, 57, 56, 57, 57] : Nat) : Int)))) (
   .need ((decide (0 ≤ x1) && decide (x1 ≤ (((Int.toNat x3) : Nat) : Int)))) (
   let x4 := List.drop (Int.toNat x1) (List.take (Int.toNat x3) [48, 48, 48, 49, 48, 50, 48, 51, 48, 52, 48, 53, 48, 54, 48, 55, 48, 56, 48, 57, 49, 48, 49, 49, 49, 50, 49, 51, 49, 52, 49, 53, 49, 54, 49, 55, 49, 56, 49, 57, 50, 48, 50, 49, 50, 50, 50, 51, 50, 52, 50, 53, 50, 54, 50, 55, 50, 56, 50, 57, 51, 48, 51, 49, 51, 50, 51, 51, 51, 52, 51, 53, 51, 54, 51, 55, 51, 56, 51, 57, 52, 48, 52, 49, 52, 50, 52, 51, 52, 52, 52, 53, 52, 54, 52, 55, 52, 56, 52, 57, 53, 48, 53, 49, 53, 50, 53, 51, 53, 52, 53, 53, 53, 54, 53, 55, 53, 56, 53, 57, 54, 48, 54, 49, 54, 50, 54, 51, 54, 52, 54, 53, 54, 54, 54, 55, 54, 56, 54, 57, 55, 48, 55, 49, 55, 50, 55, 51, 55, 52, 55, 53, 55, 54, 55, 55, 55, 56, 55, 57, 56, 48, 56, 49, 56, 50, 56, 51, 56, 52, 56, 53, 56, 54, 56, 55, 56, 56, 56, 57, 57, 48, 57, 49, 57, 50, 57, 51, 57, 52, 57, 53, 57, 54, 57, 55, 57, 56, 57, 57]);
   .leaf x4)))
def internal_strconv_small (a0 : Int) : (List UInt8) := (internal_strconv_small_tree a0).val
def internal_strconv_small_need (a0 : Int) : Bool := (internal_strconv_small_tree a0).ok
def internal_strconv_small_mk (p : (List UInt8)) : Ret := ⟨.str p, []⟩
def internal_strconv_small_c : Con := fun args => match args with
  | [.int .i64 a0] => some (.need (internal_strconv_small_need a0) (.leaf (internal_strconv_small_mk (internal_strconv_small a0))))
  | _ => none
set_option maxRecDepth 100000 in
theorem internal_strconv_small_ok : FunOK Tryd.prog 157 internal_strconv_small_c.fn := by
  refine con_ok (Γ := gam []) (gam_nil) tab_ok (by kernel_rfl) Tryd.func157 (by kernel_rfl) (by kernel_rfl) Tryd.ntmps157 Tryd.results157 (loopsOK_none rfl _) 100000 fun args t h => ?_
  unfold internal_strconv_small_c at h
  split at h
  · rename_i a0
    cases h
    exact ⟨rfl, agree_need (mk := internal_strconv_small_mk) (t := internal_strconv_small_tree a0) (by unfold Agree; kernel_rfl)⟩
  · cases h

/-- math/bits.Len64 -/
def math_bits_Len64_tree (a0 : Int) : DT (Int) :=
  let x0 := decide (a0 ≥ 4294967296);
  .ask x0
  (
   .skip (
   let x1 := Int.fdiv a0 (2 ^ (min (Int.toNat 32) (IntKind.bits .u64)));
   let x2 := decide (x1 ≥ 65536);
   .ask x2
   (
    .skip (
    let x3 := Int.fdiv x1 (2 ^ (min (Int.toNat 16) (IntKind.bits .u64)));
    let x4 := decide (x3 ≥ 256);
    .ask x4
    (
     .skip (
     let x5 := Int.fdiv x3 (2 ^ (min (Int.toNat 8) (IntKind.bits .u64)));
     let x6 := IntKind.wrap .u8 x5;
     .need ((decide (0 ≤ x6) && decide (x6 < ((List.length [0, 1, 2, 2, 3, 3, 3, 3, 4, 4, 4, 4, 4, 4, 4, 4, 5, 5, 5, 5, 5, 5, 5, 5, 5, 5, 5, 5, 5, 5, 5, 5, 6, 6, 6, 6, 6, 6, 6, 6, 6, 6, 6, 6, 6, 6, 6, 6, 6, 6, 6, 6, 6, 6, 6, 6, 6, 6, 6, 6, 6, 6, 6, 6, 7, 7, 7, 7, 7, 7, 7, 7, 7, 7, 7, 7, 7, 7, 7, 7, 7, 7, 7, 7, 7, 7, 7, 7, 7, 7, 7, 7, 7, 7, 7, 7, 7, 7, 7, 7, 7, 7, 7, 7, 7, 7, 7, 7, 7, 7, 7, 7, 7, 7, 7, 7, 7, 7, 7, 7, 7, 7, 7, 7, 7, 7, 7, 7, 8, 8, 8, 8, 8, 8, 8, 8, 8, 8, 8, 8, 8, 8, 8, 8, 8, 8, 8, 8, 8, 8, 8, 8, 8, 8, 8, 8, 8, 8, 8, 8, 8, 8, 8, 8, 8, 8, 8, 8, 8, 8, 8, 8, 8, 8, 8, 8, 8, 8, 8, 8, 8, 8, 8, 8, 8, 8, 8, 8, 8, 8, 8, 8, 8, 8, 8, 8, 8, 8, 8, 8, 8, 8, 8, 8, 8, 8, 8, 8, 8, 8, 8, 8, 8, 8, 8, 8, 8, 8, 8, 8, 8, 8, 8, 8, 8, 8, 8, 8, 8, 8, 8, 8, 8, 8, 8, 8, 8, 8, 8, 8, 8, 8, 8, 8, 8, 8, 8, 8, 8, 8, 8, 8, 8, 8, 8, 8] : Nat) : Int)))) (
     let x7 := ((List.getD ([0, 1, 2, 2, 3, 3, 3, 3, 4, 4, 4, 4, 4, 4, 4, 4, 5, 5, 5, 5, 5, 5, 5, 5, 5, 5, 5, 5, 5, 5, 5, 5, 6, 6, 6, 6, 6, 6, 6, 6, 6, 6, 6, 6, 6, 6, 6, 6, 6, 6, 6, 6, 6, 6, 6, 6, 6, 6, 6, 6, 6, 6, 6, 6, 7, 7, 7, 7, 7, 7, 7, 7, 7, 7, 7, 7, 7, 7, 7, 7, 7, 7, 7, 7, 7, 7, 7, 7, 7, 7, 7, 7, 7, 7, 7, 7, 7, 7, 7, 7, 7, 7, 7, 7, 7, 7, 7, 7, 7, 7, 7, 7, 7, 7, 7, 7, 7, 7, 7, 7, 7, 7, 7, 7, 7, 7, 7, 7, 8, 8, 8, 8, 8, 8, 8, 8, 8, 8, 8, 8, 8, 8, 8, 8, 8, 8, 8, 8, 8, 8, 8, 8, 8, 8, 8, 8, 8, 8, 8, 8, 8, 8, 8, 8, 8, 8, 8, 8, 8, 8, 8, 8, 8, 8, 8, 8, 8, 8, 8, 8, 8, 8, 8, 8, 8, 8, 8, 8, 8, 8, 8, 8, 8, 8, 8, 8, 8, 8, 8, 8, 8, 8, 8, 8, 8, 8, 8, 8, 8, 8, 8, 8, 8, 8, 8, 8, 8, 8, 8, 8, 8, 8, 8, 8, 8, 8, 8, 8, 8, 8, 8, 8, 8, 8, 8, 8, 8, 8, 8, 8, 8, 8, 8, 8, 8, 8, 8, 8, 8, 8, 8, 8, 8, 8, 8, 8] : List UInt8) (Int.toNat x6) 0).toNat : Int);
     let x8 := IntKind.wrap .i64 x7;
     let x9 := IntKind.wrap .i64 (56 + x8);
     .leaf x9)))
    (
     let x5 := IntKind.wrap .u8 x3;
     .need ((decide (0 ≤ x5) && decide (x5 < ((List.length [0, 1, 2, 2, 3, 3, 3, 3, 4, 4, 4, 4, 4, 4, 4, 4, 5, 5, 5, 5, 5, 5, 5, 5, 5, 5, 5, 5, 5, 5, 5, 5, 6, 6, 6, 6, 6, 6, 6, 6, 6, 6, 6, 6, 6, 6, 6, 6, 6, 6, 6, 6, 6, 6, 6, 6, 6, 6, 6, 6, 6, 6, 6, 6, 7, 7, 7, 7, 7, 7, 7, 7, 7, 7, 7, 7, 7, 7, 7, 7, 7, 7, 7, 7, 7, 7, 7, 7, 7, 7, 7, 7, 7, 7, 7, 7, 7, 7, 7, 7, 7, 7, 7, 7, 7, 7, 7, 7, 7, 7, 7, 7, 7, 7, 7, 7, 7, 7, 7, 7, 7, 7, 7, 7, 7, 7, 7, 7, 8, 8, 8, 8, 8, 8, 8, 8, 8, 8, 8, 8, 8, 8, 8, 8, 8, 8, 8, 8, 8, 8, 8, 8, 8, 8, 8, 8, 8, 8, 8, 8, 8, 8, 8, 8, 8, 8, 8, 8, 8, 8, 8, 8, 8, 8, 8, 8, 8, 8, 8, 8, 8, 8, 8, 8, 8, 8, 8, 8, 8, 8, 8, 8, 8, 8, 8, 8, 8, 8, 8, 8, 8, 8, 8, 8, 8, 8, 8, 8, 8, 8, 8, 8, 8, 8, 8, 8, 8, 8, 8, 8, 8, 8, 8, 8, 8, 8, 8, 8, 8, 8, 8, 8, 8, 8, 8, 8, 8, 8, 8, 8, 8, 8, 8, 8, 8, 8, 8, 8, 8, 8, 8, 8, 8, 8, 8, 8] : Nat) : Int)))) (
     let x6 := ((List.getD ([0, 1, 2, 2, 3, 3, 3, 3, 4, 4, 4, 4, 4, 4, 4, 4, 5, 5, 5, 5, 5, 5, 5, 5, 5, 5, 5, 5, 5, 5, 5, 5, 6, 6, 6, 6, 6, 6, 6, 6, 6, 6, 6, 6, 6, 6, 6, 6, 6, 6, 6, 6, 6, 6, 6, 6, 6, 6, 6, 6, 6, 6, 6, 6, 7, 7, 7, 7, 7, 7, 7, 7, 7, 7, 7, 7, 7, 7, 7, 7, 7, 7, 7, 7, 7, 7, 7, 7, 7, 7, 7, 7, 7, 7, 7, 7, 7, 7, 7, 7, 7, 7, 7, 7, 7, 7, 7, 7, 7, 7, 7, 7, 7, 7, 7, 7, 7, 7, 7, 7, 7, 7, 7, 7, 7, 7, 7, 7, 8, 8, 8, 8, 8, 8, 8, 8, 8, 8, 8, 8, 8, 8, 8, 8, 8, 8, 8, 8, 8, 8, 8, 8, 8, 8, 8, 8, 8, 8, 8, 8, 8, 8, 8, 8, 8, 8, 8, 8, 8, 8, 8, 8, 8, 8, 8, 8, 8, 8, 8, 8, 8, 8, 8, 8, 8, 8, 8, 8, 8, 8, 8, 8, 8, 8, 8, 8, 8, 8, 8, 8, 8, 8, 8, 8, 8, 8, 8, 8, 8, 8, 8, 8, 8, 8, 8, 8, 8, 8, 8, 8, 8, 8, 8, 8, 8, 8, 8, 8, 8, 8, 8, 8, 8, 8, 8, 8, 8, 8, 8, 8, 8, 8, 8, 8, 8, 8, 8, 8, 8, 8, 8, 8, 8, 8, 8, 8] : List UInt8) (Int.toNat x5) 0).toNat : Int);
     let x7 := IntKind.wrap .i64 x6;
     let x8 := IntKind.wrap .i64 (48 + x7);
     .leaf x8))))
   (
    let x3 := decide (x1 ≥ 256);
    .ask x3
    (
     .skip (
     let x4 := Int.fdiv x1 (2 ^ (min (Int.toNat 8) (IntKind.bits .u64)));
     let x5 := IntKind.wrap .u8 x4;
     .need ((decide (0 ≤ x5) && decide (x5 < ((List.length [0, 1, 2, 2, 3, 3, 3, 3, 4, 4, 4, 4, 4, 4, 4, 4, 5, 5, 5, 5, 5, 5, 5, 5, 5, 5, 5, 5, 5, 5, 5, 5, 6, 6, 6, 6, 6, 6, 6, 6, 6, 6, 6, 6, 6, 6, 6, 6, 6, 6, 6, 6, 6, 6, 6, 6, 6, 6, 6, 6, 6, 6, 6, 6, 7, 7, 7, 7, 7, 7, 7, 7, 7, 7, 7, 7, 7, 7, 7, 7, 7, 7, 7, 7, 7, 7, 7, 7, 7, 7, 7, 7, 7, 7, 7, 7, 7, 7, 7, 7, 7, 7, 7, 7, 7, 7, 7, 7, 7, 7, 7, 7, 7, 7, 7, 7, 7, 7, 7, 7, 7, 7, 7, 7, 7, 7, 7, 7, 8, 8, 8, 8, 8, 8, 8, 8, 8, 8, 8, 8, 8, 8, 8, 8, 8, 8, 8, 8, 8, 8, 8, 8, 8, 8, 8, 8, 8, 8, 8, 8, 8, 8, 8, 8, 8, 8, 8, 8, 8, 8, 8, 8, 8, 8, 8, 8, 8, 8, 8, 8, 8, 8, 8, 8, 8, 8, 8, 8, 8, 8, 8, 8, 8, 8, 8, 8, 8, 8, 8, 8, 8, 8, 8, 8, 8, 8, 8, 8, 8, 8, 8, 8, 8, 8, 8, 8, 8, 8, 8, 8, 8, 8, 8, 8, 8, 8, 8, 8, 8, 8, 8, 8, 8, 8, 8, 8, 8, 8, 8, 8, 8, 8, 8, 8, 8, 8, 8, 8, 8, 8, 8, 8, 8, 8, 8, 8] : Nat) : Int)))) (
     let x6 := ((List.getD ([0, 1, 2, 2, 3, 3, 3, 3, 4, 4, 4, 4, 4, 4, 4, 4, 5, 5, 5, 5, 5, 5, 5, 5, 5, 5, 5, 5, 5, 5, 5, 5, 6, 6, 6, 6, 6, 6, 6, 6, 6, 6, 6, 6, 6, 6, 6, 6, 6, 6, 6, 6, 6, 6, 6, 6, 6, 6, 6, 6, 6, 6, 6, 6, 7, 7, 7, 7, 7, 7, 7, 7, 7, 7, 7, 7, 7, 7, 7, 7, 7, 7, 7, 7, 7, 7, 7, 7, 7, 7, 7, 7, 7, 7, 7, 7, 7, 7, 7, 7, 7, 7, 7, 7, 7, 7, 7, 7, 7, 7, 7, 7, 7, 7, 7, 7, 7, 7, 7, 7, 7, 7, 7, 7, 7, 7, 7, 7, 8, 8, 8, 8, 8, 8, 8, 8, 8, 8, 8, 8, 8, 8, 8, 8, 8, 8, 8, 8, 8, 8, 8, 8, 8, 8, 8, 8, 8, 8, 8, 8, 8, 8, 8, 8, 8, 8, 8, 8, 8, 8, 8, 8, 8, 8, 8, 8, 8, 8, 8, 8, 8, 8, 8, 8, 8, 8, 8, 8, 8, 8, 8, 8, 8, 8, 8, 8, 8, 8, 8, 8, 8, 8, 8, 8, 8, 8, 8, 8, 8, 8, 8, 8, 8, 8, 8, 8, 8, 8, 8, 8, 8, 8, 8, 8, 8, 8, 8, 8, 8, 8, 8, 8, 8, 8, 8, 8, 8, 8, 8, 8, 8, 8, 8, 8, 8, 8, 8, 8, 8, 8, 8, 8, 8, 8, 8, 8] : List UInt8) (Int.toNat x5) 0).toNat : Int);
     let x7 := IntKind.wrap .i64 x6;
     let x8 := IntKind.wrap .i64 (40 + x7);
     .leaf x8)))
    (
     let x4 := IntKind.wrap .u8 x1;
     .need ((decide (0 ≤ x4) && decide (x4 < ((List.length [0, 1, 2, 2, 3, 3, 3, 3, 4, 4, 4, 4, 4, 4, 4, 4, 5, 5, 5, 5, 5, 5, 5, 5, 5, 5, 5, 5, 5, 5, 5, 5, 6, 6, 6, 6, 6, 6, 6, 6, 6, 6, 6, 6, 6, 6, 6, 6, 6, 6, 6, 6, 6, 6, 6, 6, 6, 6, 6, 6, 6, 6, 6, 6, 7, 7, 7, 7, 7, 7, 7, 7, 7, 7, 7, 7, 7, 7, 7, 7, 7, 7, 7, 7, 7, 7, 7, 7, 7, 7, 7, 7, 7, 7, 7, 7, 7, 7, 7, 7, 7, 7, 7, 7, 7, 7, 7, 7, 7, 7, 7, 7, 7, 7, 7, 7, 7, 7, 7, 7, 7, 7, 7, 7, 7, 7, 7, 7, 8, 8, 8, 8, 8, 8, 8, 8, 8, 8, 8, 8, 8, 8, 8, 8, 8, 8, 8, 8, 8, 8, 8, 8, 8, 8, 8, 8, 8, 8, 8, 8, 8, 8, 8, 8, 8, 8, 8, 8, 8, 8, 8, 8, 8, 8, 8, 8, 8, 8, 8, 8, 8, 8, 8, 8, 8, 8, 8, 8, 8, 8, 8, 8, 8, 8, 8, 8, 8, 8, 8, 8, 8, 8, 8, 8, 8, 8, 8, 8, 8, 8, 8, 8, 8, 8, 8, 8, 8, 8, 8, 8, 8, 8, 8, 8, 8, 8, 8, 8, 8, 8, 8, 8, 8, 8, 8, 8, 8, 8, 8, 8, 8, 8, 8, 8, 8, 8, 8, 8, 8, 8, 8, 8, 8, 8, 8, 8] : Nat) : Int)))) (
     let x5 := ((List.getD ([0, 1, 2, 2, 3, 3, 3, 3, 4, 4, 4, 4, 4, 4, 4, 4, 5, 5, 5, 5, 5, 5, 5, 5, 5, 5, 5, 5, 5, 5, 5, 5, 6, 6, 6, 6, 6, 6, 6, 6, 6, 6, 6, 6, 6, 6, 6, 6, 6, 6, 6, 6, 6, 6, 6, 6, 6, 6, 6, 6, 6, 6, 6, 6, 7, 7, 7, 7, 7, 7, 7, 7, 7, 7, 7, 7, 7, 7, 7, 7, 7, 7, 7, 7, 7, 7, 7, 7, 7, 7, 7, 7, 7, 7, 7, 7, 7, 7, 7, 7, 7, 7, 7, 7, 7, 7, 7, 7, 7, 7, 7, 7, 7, 7, 7, 7, 7, 7, 7, 7, 7, 7, 7, 7, 7, 7, 7, 7, 8, 8, 8, 8, 8, 8, 8, 8, 8, 8, 8, 8, 8, 8, 8, 8, 8, 8, 8, 8, 8, 8, 8, 8, 8, 8, 8, 8, 8, 8, 8, 8, 8, 8, 8, 8, 8, 8, 8, 8, 8, 8, 8, 8, 8, 8, 8, 8, 8, 8, 8, 8, 8, 8, 8, 8, 8, 8, 8, 8, 8, 8, 8, 8, 8, 8, 8, 8, 8, 8, 8, 8, 8, 8, 8, 8, 8, 8, 8, 8, 8, 8, 8, 8, 8, 8, 8, 8, 8, 8, 8, 8, 8, 8, 8, 8, 8, 8, 8, 8, 8, 8, 8, 8, 8, 8, 8, 8, 8, 8, 8, 8, 8, 8, 8, 8, 8, 8, 8, 8, 8, 8, 8, 8, 8, 8, 8, 8] : List UInt8) (Int.toNat x4) 0).toNat : Int);
     let x6 := IntKind.wrap .i64 x5;
     let x7 := IntKind.wrap .i64 (32 + x6);
     .leaf x7)))))
  (
   let x1 := decide (a0 ≥ 65536);
   .ask x1
   (
    .skip (
    let x2 := Int.fdiv a0 (2 ^ (min (Int.toNat 16) (IntKind.bits .u64)));
    let x3 := decide (x2 ≥ 256);
    .ask x3
    (
     .skip (
     let x4 := Int.fdiv x2 (2 ^ (min (Int.toNat 8) (IntKind.bits .u64)));
     let x5 := IntKind.wrap .u8 x4;
     .need ((decide (0 ≤ x5) && decide (x5 < ((List.length [0, 1, 2, 2, 3, 3, 3, 3, 4, 4, 4, 4, 4, 4, 4, 4, 5, 5, 5, 5, 5, 5, 5, 5, 5, 5, 5, 5, 5, 5, 5, 5, 6, 6, 6, 6, 6, 6, 6, 6, 6, 6, 6, 6, 6, 6, 6, 6, 6, 6, 6, 6, 6, 6, 6, 6, 6, 6, 6, 6, 6, 6, 6, 6, 7, 7, 7, 7, 7, 7, 7, 7, 7, 7, 7, 7, 7, 7, 7, 7, 7, 7, 7, 7, 7, 7, 7, 7, 7, 7, 7, 7, 7, 7, 7, 7, 7, 7, 7, 7, 7, 7, 7, 7, 7, 7, 7, 7, 7, 7, 7, 7, 7, 7, 7, 7, 7, 7, 7, 7, 7, 7, 7, 7, 7, 7, 7, 7, 8, 8, 8, 8, 8, 8, 8, 8, 8, 8, 8, 8, 8, 8, 8, 8, 8, 8, 8, 8, 8, 8, 8, 8, 8, 8, 8, 8, 8, 8, 8, 8, 8, 8, 8, 8, 8, 8, 8, 8, 8, 8, 8, 8, 8, 8, 8, 8, 8, 8, 8, 8, 8, 8, 8, 8, 8, 8, 8, 8, 8, 8, 8, 8, 8, 8, 8, 8, 8, 8, 8, 8, 8, 8, 8, 8, 8, 8, 8, 8, 8, 8, 8, 8, 8, 8, 8, 8, 8, 8, 8, 8, 8, 8, 8, 8, 8, 8, 8, 8, 8, 8, 8, 8, 8, 8, 8, 8, 8, 8, 8, 8, 8, 8, 8, 8, 8, 8, 8, 8, 8, 8, 8, 8, 8, 8, 8, 8] : Nat) : Int)))) (
     let x6 := ((List.getD ([0, 1, 2, 2, 3, 3, 3, 3, 4, 4, 4, 4, 4, 4, 4, 4, 5, 5, 5, 5, 5, 5, 5, 5, 5, 5, 5, 5, 5, 5, 5, 5, 6, 6, 6, 6, 6, 6, 6, 6, 6, 6, 6, 6, 6, 6, 6, 6, 6, 6, 6, 6, 6, 6, 6, 6, 6, 6, 6, 6, 6, 6, 6, 6, 7, 7, 7, 7, 7, 7, 7, 7, 7, 7, 7, 7, 7, 7, 7, 7, 7, 7, 7, 7, 7, 7, 7, 7, 7, 7, 7, 7, 7, 7, 7, 7, 7, 7, 7, 7, 7, 7, 7, 7, 7, 7, 7, 7, 7, 7, 7, 7, 7, 7, 7, 7, 7, 7, 7, 7, 7, 7, 7, 7, 7, 7, 7, 7, 8, 8, 8, 8, 8, 8, 8, 8, 8, 8, 8, 8, 8, 8, 8, 8, 8, 8, 8, 8, 8, 8, 8, 8, 8, 8, 8, 8, 8, 8, 8, 8, 8, 8, 8, 8, 8, 8, 8, 8, 8, 8, 8, 8, 8, 8, 8, 8, 8, 8, 8, 8, 8, 8, 8, 8, 8, 8, 8, 8, 8, 8, 8, 8, 8, 8, 8, 8, 8, 8, 8, 8, 8, 8, 8, 8, 8, 8, 8, 8, 8, 8, 8, 8, 8, 8, 8, 8, 8, 8, 8, 8, 8, 8, 8, 8, 8, 8, 8, 8, 8, 8, 8, 8, 8, 8, 8, 8, 8, 8, 8, 8, 8, 8, 8, 8, 8, 8, 8, 8, 8, 8, 8, 8, 8, 8, 8, 8] : List UInt8) (Int.toNat x5) 0).toNat : Int);
     let x7 := IntKind.wrap .i64 x6;
     let x8 := IntKind.wrap .i64 (24 + x7);
     .leaf x8)))
    (
     let x4 := IntKind.wrap .u8 x2;
     .need ((decide (0 ≤ x4) && decide (x4 < ((List.length [0, 1, 2, 2, 3, 3, 3, 3, 4, 4, 4, 4, 4, 4, 4, 4, 5, 5, 5, 5, 5, 5, 5, 5, 5, 5, 5, 5, 5, 5, 5, 5, 6, 6, 6, 6, 6, 6, 6, 6, 6, 6, 6, 6, 6, 6, 6, 6, 6, 6, 6, 6, 6, 6, 6, 6, 6, 6, 6, 6, 6, 6, 6, 6, 7, 7, 7, 7, 7, 7, 7, 7, 7, 7, 7, 7, 7, 7, 7, 7, 7, 7, 7, 7, 7, 7, 7, 7, 7, 7, 7, 7, 7, 7, 7, 7, 7, 7, 7, 7, 7, 7, 7, 7, 7, 7, 7, 7, 7, 7, 7, 7, 7, 7, 7, 7, 7, 7, 7, 7, 7, 7, 7, 7, 7, 7, 7, 7, 8, 8, 8, 8, 8, 8, 8, 8, 8, 8, 8, 8, 8, 8, 8, 8, 8, 8, 8, 8, 8, 8, 8, 8, 8, 8, 8, 8, 8, 8, 8, 8, 8, 8, 8, 8, 8, 8, 8, 8, 8, 8, 8, 8, 8, 8, 8, 8, 8, 8, 8, 8, 8, 8, 8, 8, 8, 8, 8, 8, 8, 8, 8, 8, 8, 8, 8, 8, 8, 8, 8, 8, 8, 8, 8, 8, 8, 8, 8, 8, 8, 8, 8, 8, 8, 8, 8, 8, 8, 8, 8, 8, 8, 8, 8, 8, 8, 8, 8, 8, 8, 8, 8, 8, 8, 8, 8, 8, 8, 8, 8, 8, 8, 8, 8, 8, 8, 8, 8, 8, 8, 8, 8, 8, 8, 8, 8, 8] : Nat) : Int)))) (
     let x5 := ((List.getD ([0, 1, 2, 2, 3, 3, 3, 3, 4, 4, 4, 4, 4, 4, 4, 4, 5, 5, 5, 5, 5, 5, 5, 5, 5, 5, 5, 5, 5, 5, 5, 5, 6, 6, 6, 6, 6, 6, 6, 6, 6, 6, 6, 6, 6, 6, 6, 6, 6, 6, 6, 6, 6, 6, 6, 6, 6, 6, 6, 6, 6, 6, 6, 6, 7, 7, 7, 7, 7, 7, 7, 7, 7, 7, 7, 7, 7, 7, 7, 7, 7, 7, 7, 7, 7, 7, 7, 7, 7, 7, 7, 7, 7, 7, 7, 7, 7, 7, 7, 7, 7, 7, 7, 7, 7, 7, 7, 7, 7, 7, 7, 7, 7, 7, 7, 7, 7, 7, 7, 7, 7, 7, 7, 7, 7, 7, 7, 7, 8, 8, 8, 8, 8, 8, 8, 8, 8, 8, 8, 8, 8, 8, 8, 8, 8, 8, 8, 8, 8, 8, 8, 8, 8, 8, 8, 8, 8, 8, 8, 8, 8, 8, 8, 8, 8, 8, 8, 8, 8, 8, 8, 8, 8, 8, 8, 8, 8, 8, 8, 8, 8, 8, 8, 8, 8, 8, 8, 8, 8, 8, 8, 8, 8, 8, 8, 8, 8, 8, 8, 8, 8, 8, 8, 8, 8, 8, 8, 8, 8, 8, 8, 8, 8, 8, 8, 8, 8, 8, 8, 8, 8, 8, 8, 8, 8, 8, 8, 8, 8, 8, 8, 8, 8, 8, 8, 8, 8, 8, 8, 8, 8, 8, 8, 8, 8, 8, 8, 8, 8, 8, 8, 8, 8, 8, 8, 8] : List UInt8) (Int.toNat x4) 0).toNat : Int);
     let x6 := IntKind.wrap .i64 x5;
     let x7 := IntKind.wrap .i64 (16 + x6);
     .leaf x7))))
   (
    let x2 := decide (a0 ≥ 256);
    .ask x2
    (
     .skip (
     let x3 := Int.fdiv a0 (2 ^ (min (Int.toNat 8) (IntKind.bits .u64)));
     let x4 := IntKind.wrap .u8 x3;
     .need ((decide (0 ≤ x4) && decide (x4 < ((List.length [0, 1, 2, 2, 3, 3, 3, 3, 4, 4, 4, 4, 4, 4, 4, 4, 5, 5, 5, 5, 5, 5, 5, 5, 5, 5, 5, 5, 5, 5, 5, 5, 6, 6, 6, 6, 6, 6, 6, 6, 6, 6, 6, 6, 6, 6, 6, 6, 6, 6, 6, 6, 6, 6, 6, 6, 6, 6, 6, 6, 6, 6, 6, 6, 7, 7, 7, 7, 7, 7, 7, 7, 7, 7, 7, 7, 7, 7, 7, 7, 7, 7, 7, 7, 7, 7, 7, 7, 7, 7, 7, 7, 7, 7, 7, 7, 7, 7, 7, 7, 7, 7, 7, 7, 7, 7, 7, 7, 7, 7, 7, 7, 7, 7, 7, 7, 7, 7, 7, 7, 7, 7, 7, 7, 7, 7, 7, 7, 8, 8, 8, 8, 8, 8, 8, 8, 8, 8, 8, 8, 8, 8, 8, 8, 8, 8, 8, 8, 8, 8, 8, 8, 8, 8, 8, 8, 8, 8, 8, 8, 8, 8, 8, 8, 8, 8, 8, 8, 8, 8, 8, 8, 8, 8, 8, 8, 8, 8, 8, 8, 8, 8, 8, 8, 8, 8, 8, 8, 8, 8, 8, 8, 8, 8, 8, 8, 8, 8, 8, 8, 8, 8, 8, 8, 8, 8, 8, 8, 8, 8, 8, 8, 8, 8, 8, 8, 8, 8, 8, 8, 8, 8, 8, 8, 8, 8, 8, 8, 8, 8, 8, 8, 8, 8, 8, 8, 8, 8, 8, 8, 8, 8, 8, 8, 8, 8, 8, 8, 8, 8, 8, 8, 8, 8, 8, 8] : Nat) : Int)))) (
     let x5 := ((List.getD ([0, 1, 2, 2, 3, 3, 3, 3, 4, 4, 4, 4, 4, 4, 4, 4, 5, 5, 5, 5, 5, 5, 5, 5, 5, 5, 5, 5, 5, 5, 5, 5, 6, 6, 6, 6, 6, 6, 6, 6, 6, 6, 6, 6, 6, 6, 6, 6, 6, 6, 6, 6, 6, 6, 6, 6, 6, 6, 6, 6, 6, 6, 6, 6, 7, 7, 7, 7, 7, 7, 7, 7, 7, 7, 7, 7, 7, 7, 7, 7, 7, 7, 7, 7, 7, 7, 7, 7, 7, 7, 7, 7, 7, 7, 7, 7, 7, 7, 7, 7, 7, 7, 7, 7, 7, 7, 7, 7, 7, 7, 7, 7, 7, 7, 7, 7, 7, 7, 7, 7, 7, 7, 7, 7, 7, 7, 7, 7, 8, 8, 8, 8, 8, 8, 8, 8, 8, 8, 8, 8, 8, 8, 8, 8, 8, 8, 8, 8, 8, 8, 8, 8, 8, 8, 8, 8, 8, 8, 8, 8, 8, 8, 8, 8, 8, 8, 8, 8, 8, 8, 8, 8, 8, 8, 8, 8, 8, 8, 8, 8, 8, 8, 8, 8, 8, 8, 8, 8, 8, 8, 8, 8, 8, 8, 8, 8, 8, 8, 8, 8, 8, 8, 8, 8, 8, 8, 8, 8, 8, 8, 8, 8, 8, 8, 8, 8, 8, 8, 8, 8, 8, 8, 8, 8, 8, 8, 8, 8, 8, 8, 8, 8, 8, 8, 8, 8, 8, 8, 8, 8, 8, 8, 8, 8, 8, 8, 8, 8, 8, 8, 8, 8, 8, 8, 8, 8] : List UInt8) (Int.toNat x4) 0).toNat : Int);
     let x6 := IntKind.wrap .i64 x5;
     let x7 := IntKind.wrap .i64 (8 + x6);
     .leaf x7)))
    (
     let x3 := IntKind.wrap .u8 a0;
     .need ((decide (0 ≤ x3) && decide (x3 < ((List.length [0, 1, 2, 2, 3, 3, 3, 3, 4, 4, 4, 4, 4, 4, 4, 4, 5, 5, 5, 5, 5, 5, 5, 5, 5, 5, 5, 5, 5, 5, 5, 5, 6, 6, 6, 6, 6, 6, 6, 6, 6, 6, 6, 6, 6, 6, 6, 6, 6, 6, 6, 6, 6, 6, 6, 6, 6, 6, 6, 6, 6, 6, 6, 6, 7, 7, 7, 7, 7, 7, 7, 7, 7, 7, 7, 7, 7, 7, 7, 7, 7, 7, 7, 7, 7, 7, 7, 7, 7, 7, 7, 7, 7, 7, 7, 7, 7, 7, 7, 7, 7, 7, 7, 7, 7, 7, 7, 7, 7, 7, 7, 7, 7, 7, 7, 7, 7, 7, 7, 7, 7, 7, 7, 7, 7, 7, 7, 7, 8, 8, 8, 8, 8, 8, 8, 8, 8, 8, 8, 8, 8, 8, 8, 8, 8, 8, 8, 8, 8, 8, 8, 8, 8, 8, 8, 8, 8, 8, 8, 8, 8, 8, 8, 8, 8, 8, 8, 8, 8, 8, 8, 8, 8, 8, 8, 8, 8, 8, 8, 8, 8, 8, 8, 8, 8, 8, 8, 8, 8, 8, 8, 8, 8, 8, 8, 8, 8, 8, 8, 8, 8, 8, 8, 8, 8, 8, 8, 8, 8, 8, 8, 8, 8, 8, 8, 8, 8, 8, 8, 8, 8, 8, 8, 8, 8, 8, 8, 8, 8, 8, 8, 8, 8, 8, 8, 8, 8, 8, 8, 8, 8, 8, 8, 8, 8, 8, 8, 8, 8, 8, 8, 8, 8, 8, 8, 8] : Nat) : Int)))) (
     let x4 := ((List.getD ([0, 1, 2, 2, 3, 3, 3, 3, 4, 4, 4, 4, 4, 4, 4, 4, 5, 5, 5, 5, 5, 5, 5, 5, 5, 5, 5, 5, 5, 5, 5, 5, 6, 6, 6, 6, 6, 6, 6, 6, 6, 6, 6, 6, 6, 6, 6, 6, 6, 6, 6, 6, 6, 6, 6, 6, 6, 6, 6, 6, 6, 6, 6, 6, 7, 7, 7, 7, 7, 7, 7, 7, 7, 7, 7, 7, 7, 7, 7, 7, 7, 7, 7, 7, 7, 7, 7, 7, 7, 7, 7, 7, 7, 7, 7, 7, 7, 7, 7, 7, 7, 7, 7, 7, 7, 7, 7, 7, 7, 7, 7, 7, 7, 7, 7, 7, 7, 7, 7, 7, 7, 7, 7, 7, 7, 7, 7, 7, 8, 8, 8, 8, 8, 8, 8, 8, 8, 8, 8, 8, 8, 8, 8, 8, 8, 8, 8, 8, 8, 8, 8, 8, 8, 8, 8, 8, 8, 8, 8, 8, 8, 8, 8, 8, 8, 8, 8, 8, 8, 8, 8, 8, 8, 8, 8, 8, 8, 8, 8, 8, 8, 8, 8, 8, 8, 8, 8, 8, 8, 8, 8, 8, 8, 8, 8, 8, 8, 8, 8, 8, 8, 8, 8, 8, 8, 8, 8, 8, 8, 8, 8, 8, 8, 8, 8, 8, 8, 8, 8, 8, 8, 8, 8, 8, 8, 8, 8, 8, 8, 8, 8, 8, 8, 8, 8, 8, 8, 8, 8, 8, 8, 8, 8, 8, 8, 8, 8, 8, 8, 8, 8, 8, 8, 8, 8, 8] : List UInt8) (Int.toNat x3) 0).toNat : Int);
     let x5 := IntKind.wrap .i64 x4;
     let x6 := IntKind.wrap .i64 (0 + x5);
     .leaf x6))))
def math_bits_Len64 (a0 : Int) : Int := (math_bits_Len64_tree a0).val
def math_bits_Len64_need (a0 : Int) : Bool := (math_bits_Len64_tree a0).ok
def math_bits_Len64_mk (p : Int) : Ret := ⟨.int .i64 p, []⟩
def math_bits_Len64_c : Con := fun args => match args with
  | [.int .u64 a0] => some (.need (math_bits_Len64_need a0) (.leaf (math_bits_Len64_mk (math_bits_Len64 a0))))
  | _ => none
set_option maxRecDepth 100000 in
theorem math_bits_Len64_ok : FunOK Tryd.prog 177 math_bits_Len64_c.fn := by
  refine con_ok (Γ := gam []) (gam_nil) tab_ok (by kernel_rfl) Tryd.func177 (by kernel_rfl) (by kernel_rfl) Tryd.ntmps177 Tryd.results177 (loopsOK_none rfl _) 100000 fun args t h => ?_
  unfold math_bits_Len64_c at h
  split at h
  · rename_i a0
    cases h
    exact ⟨rfl, agree_need (mk := math_bits_Len64_mk) (t := math_bits_Len64_tree a0) (by unfold Agree; kernel_rfl)⟩
  · cases h

/-- internal/strconv.log10Pow2 -/
def internal_strconv_log10Pow2_tree (a0 : Int) : DT (Int) :=
  let x0 := IntKind.wrap .i64 (a0 * 78913);
  .skip (
  let x1 := Int.fdiv x0 (2 ^ (min (Int.toNat 18) (IntKind.bits .i64)));
  .leaf x1)
def internal_strconv_log10Pow2 (a0 : Int) : Int := (internal_strconv_log10Pow2_tree a0).val
def internal_strconv_log10Pow2_mk (p : Int) : Ret := ⟨.int .i64 p, []⟩
def internal_strconv_log10Pow2_c : Con := fun args => match args with
  | [.int .i64 a0] => some (.leaf (internal_strconv_log10Pow2_mk (internal_strconv_log10Pow2 a0)))
  | _ => none
set_option maxRecDepth 100000 in
theorem internal_strconv_log10Pow2_ok : FunOK Tryd.prog 176 internal_strconv_log10Pow2_c.fn := by
  refine con_ok (Γ := gam []) (gam_nil) tab_ok (by kernel_rfl) Tryd.func176 (by kernel_rfl) (by kernel_rfl) Tryd.ntmps176 Tryd.results176 (loopsOK_none rfl _) 100000 fun args t h => ?_
  unfold internal_strconv_log10Pow2_c at h
  split at h
  · rename_i a0
    cases h
    exact ⟨rfl, agree_tot (mk := internal_strconv_log10Pow2_mk) (t := internal_strconv_log10Pow2_tree a0) (by unfold Agree; kernel_rfl) (by kernel_rfl)⟩
  · cases h

/-- internal/strconv.bool2[int] -/
def internal_strconv_bool2_int__tree (a0 : Bool) : DT (Int) :=
  .ask a0
  (
   .leaf 1)
  (
   .leaf 0)
def internal_strconv_bool2_int_ (a0 : Bool) : Int := (internal_strconv_bool2_int__tree a0).val
def internal_strconv_bool2_int__mk (p : Int) : Ret := ⟨.int .i64 p, []⟩
def internal_strconv_bool2_int__c : Con := fun args => match args with
  | [.bool a0] => some (.leaf (internal_strconv_bool2_int__mk (internal_strconv_bool2_int_ a0)))
  | _ => none
set_option maxRecDepth 100000 in
theorem internal_strconv_bool2_int__ok : FunOK Tryd.prog 178 internal_strconv_bool2_int__c.fn := by
  refine con_ok (Γ := gam []) (gam_nil) tab_ok (by kernel_rfl) Tryd.func178 (by kernel_rfl) (by kernel_rfl) Tryd.ntmps178 Tryd.results178 (loopsOK_none rfl _) 100000 fun args t h => ?_
  unfold internal_strconv_bool2_int__c at h
  split at h
  · rename_i a0
    cases h
    exact ⟨rfl, agree_tot (mk := internal_strconv_bool2_int__mk) (t := internal_strconv_bool2_int__tree a0) (by unfold Agree; kernel_rfl) (by kernel_rfl)⟩
  · cases h

-- FAILED 158 internal/strconv.numDigits: global

-- FAILED 159 internal/strconv.formatBase10: mut: results

/-- internal/strconv.isPowerOfTwo -/
def internal_strconv_isPowerOfTwo_tree (a0 : Int) : DT (Bool) :=
  let x0 := IntKind.wrap .i64 (a0 - 1);
  let x1 := IntKind.wrap .i64 (BitVec.ofInt (IntKind.bits .i64) a0 &&& BitVec.ofInt (IntKind.bits .i64) x0).toNat;
  let x2 := (x1 == 0);
  .leaf x2
def internal_strconv_isPowerOfTwo (a0 : Int) : Bool := (internal_strconv_isPowerOfTwo_tree a0).val
def internal_strconv_isPowerOfTwo_mk (p : Bool) : Ret := ⟨.bool p, []⟩
def internal_strconv_isPowerOfTwo_c : Con := fun args => match args with
  | [.int .i64 a0] => some (.leaf (internal_strconv_isPowerOfTwo_mk (internal_strconv_isPowerOfTwo a0)))
  | _ => none
set_option maxRecDepth 100000 in
theorem internal_strconv_isPowerOfTwo_ok : FunOK Tryd.prog 179 internal_strconv_isPowerOfTwo_c.fn := by
  refine con_ok (Γ := gam []) (gam_nil) tab_ok (by kernel_rfl) Tryd.func179 (by kernel_rfl) (by kernel_rfl) Tryd.ntmps179 Tryd.results179 (loopsOK_none rfl _) 100000 fun args t h => ?_
  unfold internal_strconv_isPowerOfTwo_c at h
  split at h
  · rename_i a0
    cases h
    exact ⟨rfl, agree_tot (mk := internal_strconv_isPowerOfTwo_mk) (t := internal_strconv_isPowerOfTwo_tree a0) (by unfold Agree; kernel_rfl) (by kernel_rfl)⟩
  · cases h

-- FAILED 189 math/bits.TrailingZeros32: global

-- FAILED 190 math/bits.TrailingZeros64: global

-- FAILED 180 math/bits.TrailingZeros: no contract: math/bits.TrailingZeros64 

-- FAILED 160 internal/strconv.formatBits: operation

-- FAILED 142 internal/strconv.FormatInt: no contract: internal/strconv.numDigits 

/-- loop.example/g01284/impl.Decimal -/
def impl_Decimal_tree (a0 : Int) : DT ((List UInt8)) :=
  .need ((decide (-9223372036854775808 ≤ a0) && decide (a0 ≤ 9223372036854775807))) (
  let x0 := Go.Lib.itoa a0;
  .leaf x0)
def impl_Decimal (a0 : Int) : (List UInt8) := (impl_Decimal_tree a0).val
def impl_Decimal_need (a0 : Int) : Bool := (impl_Decimal_tree a0).ok
def impl_Decimal_mk (p : (List UInt8)) : Ret := ⟨.str p, []⟩
def impl_Decimal_c : Con := fun args => match args with
  | [.int .i64 a0] => some (.need (impl_Decimal_need a0) (.leaf (impl_Decimal_mk (impl_Decimal a0))))
  | _ => none
set_option maxRecDepth 100000 in
theorem impl_Decimal_ok : FunOK Tryd.prog 84 impl_Decimal_c.fn := by
  refine con_ok (Γ := gam [(120, strconv_FormatInt_c)]) (gam_cons strconv_FormatInt_ok (gam_nil)) tab_ok (by kernel_rfl) Tryd.func84 (by kernel_rfl) (by kernel_rfl) Tryd.ntmps84 Tryd.results84 (loopsOK_none rfl _) 100000 fun args t h => ?_
  unfold impl_Decimal_c at h
  split at h
  · rename_i a0
    cases h
    exact ⟨rfl, agree_need (mk := impl_Decimal_mk) (t := impl_Decimal_tree a0) (by unfold Agree; kernel_rfl)⟩
  · cases h

/-- a loop of spec_l01Check -/
def spec_l01Check_loop0_step (p : (List UInt8)) (s : Int × Int) : Round (Int × Int) (Int) :=
  let x0 := ((List.length p : Nat) : Int);
  let x1 := decide (s.2 < x0);
  .ask x1
  (
   let x2 := IntKind.wrap .i64 (809 * s.1);
   .need ((decide (0 ≤ s.2) && decide (s.2 < ((List.length p : Nat) : Int)))) (
   let x3 := ((List.getD (p : List UInt8) (Int.toNat s.2) 0).toNat : Int);
   let x4 := IntKind.wrap .i64 x3;
   let x5 := IntKind.wrap .i64 (x2 + x4);
   let x6 := IntKind.wrap .i64 (x5 + 103);
   .skip (
   let x7 := Int.tmod x6 65003;
   let x8 := IntKind.wrap .i64 (s.2 + 1);
   .leaf (.inl (x7, x8), []))))
  (
   .leaf (.inr s.1, []))
def spec_l01Check_loop0_L (p : (List UInt8)) : LoopS (Int × Int) (Int) := { tl := fun s => [.int .i64 s.1, .str p, .junk, .junk, .junk, .int .i64 s.2], hl := fun s => [], ex := fun r => .exit 0, otl := fun r => [.int .i64 r], ohl := fun r => [] }
def spec_l01Check_loop0_ext : St → Option (((List UInt8)) × (Int × Int) × List Nat) := fun S => match (S.tm 0).unK, (S.tm 1).unK, (S.tm 5).unK with
  | .int .i64 q0, .str q1, .int .i64 q2 => some (q1, (q0, q2), [])
  | _, _, _ => none
def spec_l01Check_loop0_post (p : (List UInt8)) (r : Int) : DT (Ex × St) := .leaf (.exit 0, LSt [.int .i64 r] [])
def spec_l01Check_loop0 (p : (List UInt8)) (s : Int × Int) : Int := loopVal (spec_l01Check_loop0_step p) s
def spec_l01Check_loop0_ends (p : (List UInt8)) (s : Int × Int) : Bool := loopEnds (spec_l01Check_loop0_step p) s
def spec_l01Check_loop0_F : LoopF := loopF spec_l01Check_loop0_step spec_l01Check_loop0_ext spec_l01Check_loop0_post
theorem spec_l01Check_loop0_hext : ∀ S p s fl, spec_l01Check_loop0_ext S = some (p, s, fl) → Norm S fl ((spec_l01Check_loop0_L p).tl s) ((spec_l01Check_loop0_L p).hl s) (spec_l01Check_loop0_L p).gl := by
  intro S p s fl h
  unfold spec_l01Check_loop0_ext at h
  (repeat' split at h) <;> first
    | (cases h; constructor <;> simp_all [spec_l01Check_loop0_L, keepT, keepH, rens, renH, PV.ren, Blk.ren, fOf, lget, nodup, natIn, lenEq, gtm, PV.unK])
    | cases h
theorem spec_l01Check_loop0_hpost : ∀ p r e S', (spec_l01Check_loop0_post p r).get = some (e, S') → e = (spec_l01Check_loop0_L p).ex r ∧ S' = LSt ((spec_l01Check_loop0_L p).otl r) ((spec_l01Check_loop0_L p).ohl r) ((spec_l01Check_loop0_L p).ogl r) := by
  intro p r e S' h
  unfold spec_l01Check_loop0_post at h
  simp only [DT.get, Option.some.injEq, Prod.mk.injEq] at h; exact ⟨h.1.symm, h.2.symm⟩

def spec_l01Check_loops : Nat → Option LoopF := loopTab [(2, spec_l01Check_loop0_F)]
set_option maxRecDepth 100000 in
theorem spec_l01Check_l0 : LoopOK Tryd.prog ⟨gam [], tab, 22, spec_l01Check_loops⟩ (lp Tryd.f116 0) :=
  loopOK_some (F := spec_l01Check_loop0_F) (by kernel_rfl) (loopF_ok (E := ⟨gam [], tab, 22, spec_l01Check_loops⟩) ⟨gam_nil, tab_ok, by kernel_rfl⟩ (fuel := 100000) (loopsOK_list (l := []) (by kernel_rfl) trivial) (L := spec_l01Check_loop0_L) (fun p s => by unfold AgreeL; exact ⟨by kernel_rfl, by kernel_rfl⟩) (fun _ _ h => Ex.noConfusion h) spec_l01Check_loop0_hext spec_l01Check_loop0_hpost)
/-- loop.example/g01284/spec.l01Check -/
def spec_l01Check_tree (a0 : Int) (a1 : (List UInt8)) : DT (Int) :=
  .need ((spec_l01Check_loop0_ends a1 (a0, 0))) (
  let x0 := spec_l01Check_loop0 a1 (a0, 0);
  .leaf x0)
def spec_l01Check (a0 : Int) (a1 : (List UInt8)) : Int := (spec_l01Check_tree a0 a1).val
def spec_l01Check_need (a0 : Int) (a1 : (List UInt8)) : Bool := (spec_l01Check_tree a0 a1).ok
def spec_l01Check_mk (p : Int) : Ret := ⟨.int .i64 p, []⟩
def spec_l01Check_c : Con := fun args => match args with
  | [.int .i64 a0, .str a1] => some (.need (spec_l01Check_need a0 a1) (.leaf (spec_l01Check_mk (spec_l01Check a0 a1))))
  | _ => none
set_option maxRecDepth 100000 in
theorem spec_l01Check_ok : FunOK Tryd.prog 116 spec_l01Check_c.fn := by
  refine con_ok (Γ := gam []) (gam_nil) tab_ok (by kernel_rfl) Tryd.func116 (by kernel_rfl) (by kernel_rfl) Tryd.ntmps116 Tryd.results116 (loops := spec_l01Check_loops) (loopsOK_list (l := [lp Tryd.f116 0]) (by kernel_rfl) ⟨spec_l01Check_l0, trivial⟩) 100000 fun args t h => ?_
  unfold spec_l01Check_c at h
  split at h
  · rename_i a0 a1
    cases h
    exact ⟨rfl, agree_need (mk := spec_l01Check_mk) (t := spec_l01Check_tree a0 a1) (by unfold Agree; kernel_rfl)⟩
  · cases h

/-- a loop of spec_l01Dec -/
def spec_l01Dec_loop0_step (p : Int) (s : Int × List Int) : Round (Int × List Int) (List Int) :=
  let x0 := ((List.length s.2 : Nat) : Int);
  let x1 := (x0 == 0);
  .ask x1
  (
   .skip (
   let x2 := Int.tmod s.1 10;
   let x3 := decide (x2 < 0);
   .ask x3
   (
    let x4 := IntKind.wrap .i64 (0 - x2);
    let x5 := IntKind.wrap .i64 (48 + x4);
    let x6 := IntKind.wrap .u8 x5;
    .need ((decide ((List.length [x6] + List.length s.2) * 1 ≤ 140737488355328) && decide (List.length [x6] + List.length s.2 ≤ 9223372036854775807))) (
    let x7 := [x6] ++ s.2;
    .skip (
    let x8 := IntKind.wrap .i64 (Int.tdiv s.1 10);
    .leaf (.inl (x8, x7), [161]))))
   (
    let x4 := IntKind.wrap .i64 (48 + x2);
    let x5 := IntKind.wrap .u8 x4;
    .need ((decide ((List.length [x5] + List.length s.2) * 1 ≤ 140737488355328) && decide (List.length [x5] + List.length s.2 ≤ 9223372036854775807))) (
    let x6 := [x5] ++ s.2;
    .skip (
    let x7 := IntKind.wrap .i64 (Int.tdiv s.1 10);
    .leaf (.inl (x7, x6), [137]))))))
  (
   let x2 := (s.1 != 0);
   .ask x2
   (
    .skip (
    let x3 := Int.tmod s.1 10;
    let x4 := decide (x3 < 0);
    .ask x4
    (
     let x5 := IntKind.wrap .i64 (0 - x3);
     let x6 := IntKind.wrap .i64 (48 + x5);
     let x7 := IntKind.wrap .u8 x6;
     .need ((decide ((List.length [x7] + List.length s.2) * 1 ≤ 140737488355328) && decide (List.length [x7] + List.length s.2 ≤ 9223372036854775807))) (
     let x8 := [x7] ++ s.2;
     .skip (
     let x9 := IntKind.wrap .i64 (Int.tdiv s.1 10);
     .leaf (.inl (x9, x8), [161]))))
    (
     let x5 := IntKind.wrap .i64 (48 + x3);
     let x6 := IntKind.wrap .u8 x5;
     .need ((decide ((List.length [x6] + List.length s.2) * 1 ≤ 140737488355328) && decide (List.length [x6] + List.length s.2 ≤ 9223372036854775807))) (
     let x7 := [x6] ++ s.2;
     .skip (
     let x8 := IntKind.wrap .i64 (Int.tdiv s.1 10);
     .leaf (.inl (x8, x7), [137]))))))
   (
    .leaf (.inr s.2, [0])))
def spec_l01Dec_loop0_L (p : Int) : LoopS (Int × List Int) (List Int) := { tl := fun s => [.int .i64 p, .junk, .junk, .own 0, .int .i64 s.1], hl := fun s => [some (.typed 5 (.int .u8) s.2)], ex := fun r => .exit 0, otl := fun r => [.int .i64 p, .junk, .junk, .own 0], ohl := fun r => [some (.typed 5 (.int .u8) r)] }
def spec_l01Dec_loop0_ext : St → Option ((Int) × (Int × List Int) × List Nat) := fun S => match (S.tm 0).unK, (S.tm 3).unK, (S.tm 4).unK with
  | .int .i64 q0, .own i0, .int .i64 q1 => (match S.hp i0 with
    | some (.typed 5 (.int .u8) q2) => some (q0, (q1, q2), [i0])
    | _ => none)
  | _, _, _ => none
def spec_l01Dec_loop0_post (p : Int) (r : List Int) : DT (Ex × St) := .leaf (.exit 0, LSt [.int .i64 p, .junk, .junk, .own 0] [some (.typed 5 (.int .u8) r)])
def spec_l01Dec_loop0 (p : Int) (s : Int × List Int) : List Int := loopVal (spec_l01Dec_loop0_step p) s
def spec_l01Dec_loop0_ends (p : Int) (s : Int × List Int) : Bool := loopEnds (spec_l01Dec_loop0_step p) s
def spec_l01Dec_loop0_F : LoopF := loopF spec_l01Dec_loop0_step spec_l01Dec_loop0_ext spec_l01Dec_loop0_post
theorem spec_l01Dec_loop0_hext : ∀ S p s fl, spec_l01Dec_loop0_ext S = some (p, s, fl) → Norm S fl ((spec_l01Dec_loop0_L p).tl s) ((spec_l01Dec_loop0_L p).hl s) (spec_l01Dec_loop0_L p).gl := by
  intro S p s fl h
  unfold spec_l01Dec_loop0_ext at h
  (repeat' split at h) <;> first
    | (cases h; constructor <;> simp_all [spec_l01Dec_loop0_L, keepT, keepH, rens, renH, PV.ren, Blk.ren, fOf, lget, nodup, natIn, lenEq, gtm, PV.unK])
    | cases h
theorem spec_l01Dec_loop0_hpost : ∀ p r e S', (spec_l01Dec_loop0_post p r).get = some (e, S') → e = (spec_l01Dec_loop0_L p).ex r ∧ S' = LSt ((spec_l01Dec_loop0_L p).otl r) ((spec_l01Dec_loop0_L p).ohl r) ((spec_l01Dec_loop0_L p).ogl r) := by
  intro p r e S' h
  unfold spec_l01Dec_loop0_post at h
  simp only [DT.get, Option.some.injEq, Prod.mk.injEq] at h; exact ⟨h.1.symm, h.2.symm⟩

def spec_l01Dec_loops : Nat → Option LoopF := loopTab [(3, spec_l01Dec_loop0_F)]
set_option maxRecDepth 100000 in
theorem spec_l01Dec_l0 : LoopOK Tryd.prog ⟨gam [], tab, 36, spec_l01Dec_loops⟩ (lp Tryd.f117 0) :=
  loopOK_some (F := spec_l01Dec_loop0_F) (by kernel_rfl) (loopF_ok (E := ⟨gam [], tab, 36, spec_l01Dec_loops⟩) ⟨gam_nil, tab_ok, by kernel_rfl⟩ (fuel := 100000) (loopsOK_list (l := []) (by kernel_rfl) trivial) (L := spec_l01Dec_loop0_L) (fun p s => by unfold AgreeL; exact ⟨by kernel_rfl, by kernel_rfl⟩) (fun _ _ h => Ex.noConfusion h) spec_l01Dec_loop0_hext spec_l01Dec_loop0_hpost)
/-- loop.example/g01284/spec.l01Dec -/
def spec_l01Dec_tree (a0 : Int) : DT ((List UInt8)) :=
  .need ((spec_l01Dec_loop0_ends a0 (a0, []))) (
  let x0 := spec_l01Dec_loop0 a0 (a0, []);
  let x1 := decide (a0 < 0);
  .ask x1
  (
   .need ((decide ((List.length [45] + List.length x0) * 1 ≤ 140737488355328) && decide (List.length [45] + List.length x0 ≤ 9223372036854775807))) (
   let x2 := [45] ++ x0;
   let x3 := strOf x2;
   .leaf x3))
  (
   let x2 := strOf x0;
   .leaf x2))
def spec_l01Dec (a0 : Int) : (List UInt8) := (spec_l01Dec_tree a0).val
def spec_l01Dec_need (a0 : Int) : Bool := (spec_l01Dec_tree a0).ok
def spec_l01Dec_mk (p : (List UInt8)) : Ret := ⟨.str p, []⟩
def spec_l01Dec_c : Con := fun args => match args with
  | [.int .i64 a0] => some (.need (spec_l01Dec_need a0) (.leaf (spec_l01Dec_mk (spec_l01Dec a0))))
  | _ => none
set_option maxRecDepth 100000 in
theorem spec_l01Dec_ok : FunOK Tryd.prog 117 spec_l01Dec_c.fn := by
  refine con_ok (Γ := gam []) (gam_nil) tab_ok (by kernel_rfl) Tryd.func117 (by kernel_rfl) (by kernel_rfl) Tryd.ntmps117 Tryd.results117 (loops := spec_l01Dec_loops) (loopsOK_list (l := [lp Tryd.f117 0]) (by kernel_rfl) ⟨spec_l01Dec_l0, trivial⟩) 100000 fun args t h => ?_
  unfold spec_l01Dec_c at h
  split at h
  · rename_i a0
    cases h
    exact ⟨rfl, agree_need (mk := spec_l01Dec_mk) (t := spec_l01Dec_tree a0) (by unfold Agree; kernel_rfl)⟩
  · cases h

/-- internal/stringslite.Index -/
def internal_stringslite_Index_k10_tree (a0 : (List UInt8)) : DT (Int) :=
  .skip (
  .skip (
  .skip (
  let x0 := ([10] == a0);
  .skip (
  .ask x0
  (
   .leaf 0)
  (
   .skip (
   .skip (
   let x1 := internal_stringslite_IndexByte a0 10;
   .leaf x1)))))))
def internal_stringslite_Index_k10 (a0 : (List UInt8)) : Int := (internal_stringslite_Index_k10_tree a0).val
def internal_stringslite_Index_k10_mk (p : Int) : Ret := ⟨.int .i64 p, []⟩
def internal_stringslite_Index_k10_c : Con := fun args => match args with
  | [.str a0, .str a1] => bif decide (a1 = ([10] : List UInt8)) then (some (.leaf (internal_stringslite_Index_k10_mk (internal_stringslite_Index_k10 a0)))) else none
  | _ => none
set_option maxRecDepth 100000 in
theorem internal_stringslite_Index_k10_ok : FunOK Tryd.prog 140 internal_stringslite_Index_k10_c.fn := by
  refine con_ok (Γ := gam [(153, internal_stringslite_IndexByte_c)]) (gam_cons internal_stringslite_IndexByte_ok (gam_nil)) tab_ok (by kernel_rfl) Tryd.func140 (by kernel_rfl) (by kernel_rfl) Tryd.ntmps140 Tryd.results140 (loopsOK_none rfl _) 100000 fun args t h => ?_
  unfold internal_stringslite_Index_k10_c at h
  split at h
  · rename_i a0 a1
    obtain ⟨hk1, h⟩ := bif_some h
    subst hk1
    cases h
    exact ⟨rfl, agree_tot (mk := internal_stringslite_Index_k10_mk) (t := internal_stringslite_Index_k10_tree a0) (by unfold Agree; kernel_rfl) (by kernel_rfl)⟩
  · cases h

/-- strings.Index -/
def strings_Index_k10_tree (a0 : (List UInt8)) : DT (Int) :=
  let x0 := internal_stringslite_Index_k10 a0;
  .leaf x0
def strings_Index_k10 (a0 : (List UInt8)) : Int := (strings_Index_k10_tree a0).val
def strings_Index_k10_mk (p : Int) : Ret := ⟨.int .i64 p, []⟩
def strings_Index_k10_c : Con := fun args => match args with
  | [.str a0, .str a1] => bif decide (a1 = ([10] : List UInt8)) then (some (.leaf (strings_Index_k10_mk (strings_Index_k10 a0)))) else none
  | _ => none
set_option maxRecDepth 100000 in
theorem strings_Index_k10_ok : FunOK Tryd.prog 118 strings_Index_k10_c.fn := by
  refine con_ok (Γ := gam [(140, internal_stringslite_Index_k10_c)]) (gam_cons internal_stringslite_Index_k10_ok (gam_nil)) tab_ok (by kernel_rfl) Tryd.func118 (by kernel_rfl) (by kernel_rfl) Tryd.ntmps118 Tryd.results118 (loopsOK_none rfl _) 100000 fun args t h => ?_
  unfold strings_Index_k10_c at h
  split at h
  · rename_i a0 a1
    obtain ⟨hk1, h⟩ := bif_some h
    subst hk1
    cases h
    exact ⟨rfl, agree_tot (mk := strings_Index_k10_mk) (t := strings_Index_k10_tree a0) (by unfold Agree; kernel_rfl) (by kernel_rfl)⟩
  · cases h

/-- strings.Contains -/
def strings_Contains_k10_tree (a0 : (List UInt8)) : DT (Bool) :=
  let x0 := strings_Index_k10 a0;
  let x1 := decide (x0 ≥ 0);
  .leaf x1
def strings_Contains_k10 (a0 : (List UInt8)) : Bool := (strings_Contains_k10_tree a0).val
def strings_Contains_k10_mk (p : Bool) : Ret := ⟨.bool p, []⟩
def strings_Contains_k10_c : Con := fun args => match args with
  | [.str a0, .str a1] => bif decide (a1 = ([10] : List UInt8)) then (some (.leaf (strings_Contains_k10_mk (strings_Contains_k10 a0)))) else none
  | _ => none
set_option maxRecDepth 100000 in
theorem strings_Contains_k10_ok : FunOK Tryd.prog 80 strings_Contains_k10_c.fn := by
  refine con_ok (Γ := gam [(118, strings_Index_k10_c)]) (gam_cons strings_Index_k10_ok (gam_nil)) tab_ok (by kernel_rfl) Tryd.func80 (by kernel_rfl) (by kernel_rfl) Tryd.ntmps80 Tryd.results80 (loopsOK_none rfl _) 100000 fun args t h => ?_
  unfold strings_Contains_k10_c at h
  split at h
  · rename_i a0 a1
    obtain ⟨hk1, h⟩ := bif_some h
    subst hk1
    cases h
    exact ⟨rfl, agree_tot (mk := strings_Contains_k10_mk) (t := strings_Contains_k10_tree a0) (by unfold Agree; kernel_rfl) (by kernel_rfl)⟩
  · cases h

end
end Go.Proofs.YtcipkfndnkmjlaaDoor
