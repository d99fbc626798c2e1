/- THE TYPES, BY A PROGRAM: what the evaluator takes from the table of types, and that it stands there. -/
import Derived.Test.YtkmcgfjhjfiomaaEngQb
import Derived.Test.YtkmcgfjhjfiomaaProg
namespace Go.Proofs.Ytkmcgfjhjfiomaa
/-- A string's bytes, as integers. -/
def u8i (l : List UInt8) : List Int := u8s l
theorem z_int {k : IntKind} : ZSim (.int k 0) (.int k 0) := fun c => by simp only [VSim]
theorem z_f32 : ZSim (.flt .f32 0) (.float .f32 0) := fun c => by simp only [VSim]; exact ⟨0, rfl, by decide +kernel⟩
theorem z_f64 : ZSim (.flt .f64 0) (.float .f64 0) := fun c => by simp only [VSim]; exact ⟨0, rfl, by decide +kernel⟩
theorem z_c32 : ZSim (.cplx .f32 0 0) (.complex .f32 0 0) := fun c => by simp only [VSim]; exact ⟨0, 0, rfl, by decide +kernel, by decide +kernel⟩
theorem z_c64 : ZSim (.cplx .f64 0 0) (.complex .f64 0 0) := fun c => by simp only [VSim]; exact ⟨0, 0, rfl, by decide +kernel, by decide +kernel⟩
theorem z_bool : ZSim (.bool false) (.bool false) := fun c => by simp only [VSim]
theorem z_str {s : ByteArray} (h : s.data.toList = []) : ZSim (.str []) (.string s) := fun c => by simp only [VSim]; exact ⟨s, rfl, h⟩
theorem z_nilp : ZSim .nilp (.pointer none) := fun c => by simp only [VSim]
theorem z_nils : ZSim .nils (.slice none 0 0) := fun c => by simp only [VSim]
theorem z_nilf : ZSim .nilf .nilFunc := fun c => by simp only [VSim]
theorem z_nili : ZSim .nili .nilIface := fun c => by simp only [VSim]
theorem ti1 : TIOK Try.prog 1 ⟨.other, 1, 8, [.nilf], none⟩ := ⟨⟨_, Try.underlying1, (fun f h => by cases h), (fun n e h => by cases h)⟩, Try.t1, _, by kernel_rfl, rfl, rfl, rfl, ⟨z_nilf, trivial⟩⟩
theorem ti2 : TIOK Try.prog 2 ⟨.int .i64, 1, 8, [.int .i64 0], some (.int .i64)⟩ := ⟨Try.underlying2, Try.t2, _, by kernel_rfl, rfl, rfl, rfl, ⟨z_int, trivial⟩⟩
theorem ti3 : TIOK Try.prog 3 ⟨.int .i64, 1, 8, [.int .i64 0], some (.int .i64)⟩ := ⟨Try.underlying3, Try.t3, _, by kernel_rfl, rfl, rfl, rfl, ⟨z_int, trivial⟩⟩
theorem ti4 : TIOK Try.prog 4 ⟨.bool, 1, 1, [.bool false], some .bool⟩ := ⟨Try.underlying4, Try.t4, _, by kernel_rfl, rfl, rfl, rfl, ⟨z_bool, trivial⟩⟩
theorem ti5 : TIOK Try.prog 5 ⟨.int .u8, 1, 1, [.int .u8 0], some (.int .u8)⟩ := ⟨Try.underlying5, Try.t5, _, by kernel_rfl, rfl, rfl, rfl, ⟨z_int, trivial⟩⟩
theorem ti6 : TIOK Try.prog 6 ⟨.int .u8, 1, 1, [.int .u8 0], some (.int .u8)⟩ := ⟨Try.underlying6, Try.t6, _, by kernel_rfl, rfl, rfl, rfl, ⟨z_int, trivial⟩⟩
theorem ti7 : TIOK Try.prog 7 ⟨.struct [(0, 2), (1, 3), (2, 4), (3, 6)], 4, 24, [.int .i64 0, .int .i64 0, .bool false, .int .u8 0], none⟩ := ⟨⟨_, Try.underlying7, rfl⟩, Try.t7, _, by kernel_rfl, rfl, rfl, rfl, ⟨z_int, z_int, z_bool, z_int, trivial⟩⟩
theorem ti8 : TIOK Try.prog 8 ⟨.struct [(0, 2), (1, 3), (2, 4), (3, 6)], 4, 24, [.int .i64 0, .int .i64 0, .bool false, .int .u8 0], none⟩ := ⟨⟨_, Try.underlying8, rfl⟩, Try.t8, _, by kernel_rfl, rfl, rfl, rfl, ⟨z_int, z_int, z_bool, z_int, trivial⟩⟩
theorem ti9 : TIOK Try.prog 9 ⟨.str, 1, 16, [.str []], some .str⟩ := ⟨Try.underlying9, Try.t9, _, by kernel_rfl, rfl, rfl, rfl, ⟨z_str rfl, trivial⟩⟩
theorem ti10 : TIOK Try.prog 10 ⟨.str, 1, 16, [.str []], some .str⟩ := ⟨Try.underlying10, Try.t10, _, by kernel_rfl, rfl, rfl, rfl, ⟨z_str rfl, trivial⟩⟩
theorem ti11 : TIOK Try.prog 11 ⟨.str, 1, 16, [.str []], some .str⟩ := ⟨Try.underlying11, Try.t11, _, by kernel_rfl, rfl, rfl, rfl, ⟨z_str rfl, trivial⟩⟩
theorem ti12 : TIOK Try.prog 12 ⟨.int .u64, 1, 8, [.int .u64 0], some (.int .u64)⟩ := ⟨Try.underlying12, Try.t12, _, by kernel_rfl, rfl, rfl, rfl, ⟨z_int, trivial⟩⟩
theorem ti13 : TIOK Try.prog 13 ⟨.struct [(0, 9), (1, 12)], 2, 24, [.str [], .int .u64 0], none⟩ := ⟨⟨_, Try.underlying13, rfl⟩, Try.t13, _, by kernel_rfl, rfl, rfl, rfl, ⟨z_str rfl, z_int, trivial⟩⟩
theorem ti14 : TIOK Try.prog 14 ⟨.struct [(0, 9), (1, 12)], 2, 24, [.str [], .int .u64 0], none⟩ := ⟨⟨_, Try.underlying14, rfl⟩, Try.t14, _, by kernel_rfl, rfl, rfl, rfl, ⟨z_str rfl, z_int, trivial⟩⟩
theorem ti15 : TIOK Try.prog 15 ⟨.ptr 153, 1, 8, [.nilp], none⟩ := ⟨Try.underlying15, Try.t15, _, by kernel_rfl, rfl, rfl, rfl, ⟨z_nilp, trivial⟩⟩
theorem ti16 : TIOK Try.prog 16 ⟨.ptr 156, 1, 8, [.nilp], none⟩ := ⟨Try.underlying16, Try.t16, _, by kernel_rfl, rfl, rfl, rfl, ⟨z_nilp, trivial⟩⟩
theorem ti17 : TIOK Try.prog 17 ⟨.ptr 166, 1, 8, [.nilp], none⟩ := ⟨Try.underlying17, Try.t17, _, by kernel_rfl, rfl, rfl, rfl, ⟨z_nilp, trivial⟩⟩
theorem ti18 : TIOK Try.prog 18 ⟨.struct [(0, 17)], 1, 8, [.nilp], none⟩ := ⟨⟨_, Try.underlying18, rfl⟩, Try.t18, _, by kernel_rfl, rfl, rfl, rfl, ⟨z_nilp, trivial⟩⟩
theorem ti19 : TIOK Try.prog 19 ⟨.struct [(0, 17)], 1, 8, [.nilp], none⟩ := ⟨⟨_, Try.underlying19, rfl⟩, Try.t19, _, by kernel_rfl, rfl, rfl, rfl, ⟨z_nilp, trivial⟩⟩
theorem ti20 : TIOK Try.prog 20 ⟨.other, 1, 16, [.nili], none⟩ := ⟨⟨_, Try.underlying20, (fun f h => by cases h), (fun n e h => by cases h)⟩, Try.t20, _, by kernel_rfl, rfl, rfl, rfl, ⟨z_nili, trivial⟩⟩
theorem ti21 : TIOK Try.prog 21 ⟨.int .i32, 1, 4, [.int .i32 0], some (.int .i32)⟩ := ⟨Try.underlying21, Try.t21, _, by kernel_rfl, rfl, rfl, rfl, ⟨z_int, trivial⟩⟩
theorem ti22 : TIOK Try.prog 22 ⟨.slc 5, 1, 24, [.nils], none⟩ := ⟨Try.underlying22, Try.t22, _, by kernel_rfl, rfl, rfl, rfl, ⟨z_nils, trivial⟩⟩
theorem ti23 : TIOK Try.prog 23 ⟨.other, 1, 8, [.nilf], none⟩ := ⟨⟨_, Try.underlying23, (fun f h => by cases h), (fun n e h => by cases h)⟩, Try.t23, _, by kernel_rfl, rfl, rfl, rfl, ⟨z_nilf, trivial⟩⟩
theorem ti24 : TIOK Try.prog 24 ⟨.slc 4, 1, 24, [.nils], none⟩ := ⟨Try.underlying24, Try.t24, _, by kernel_rfl, rfl, rfl, rfl, ⟨z_nils, trivial⟩⟩
theorem ti25 : TIOK Try.prog 25 ⟨.other, 1, 8, [.nilf], none⟩ := ⟨⟨_, Try.underlying25, (fun f h => by cases h), (fun n e h => by cases h)⟩, Try.t25, _, by kernel_rfl, rfl, rfl, rfl, ⟨z_nilf, trivial⟩⟩
theorem ti26 : TIOK Try.prog 26 ⟨.slc 2, 1, 24, [.nils], none⟩ := ⟨Try.underlying26, Try.t26, _, by kernel_rfl, rfl, rfl, rfl, ⟨z_nils, trivial⟩⟩
theorem ti28 : TIOK Try.prog 28 ⟨.other, 1, 8, [.nilf], none⟩ := ⟨⟨_, Try.underlying28, (fun f h => by cases h), (fun n e h => by cases h)⟩, Try.t28, _, by kernel_rfl, rfl, rfl, rfl, ⟨z_nilf, trivial⟩⟩
theorem ti30 : TIOK Try.prog 30 ⟨.other, 1, 8, [.nilf], none⟩ := ⟨⟨_, Try.underlying30, (fun f h => by cases h), (fun n e h => by cases h)⟩, Try.t30, _, by kernel_rfl, rfl, rfl, rfl, ⟨z_nilf, trivial⟩⟩
theorem ti31 : TIOK Try.prog 31 ⟨.flt .f32, 1, 4, [.flt .f32 0], some (.flt .f32)⟩ := ⟨Try.underlying31, Try.t31, _, by kernel_rfl, rfl, rfl, rfl, ⟨z_f32, trivial⟩⟩
theorem ti32 : TIOK Try.prog 32 ⟨.struct [(0, 31), (1, 31), (2, 31), (3, 31)], 4, 16, [.flt .f32 0, .flt .f32 0, .flt .f32 0, .flt .f32 0], none⟩ := ⟨⟨_, Try.underlying32, rfl⟩, Try.t32, _, by kernel_rfl, rfl, rfl, rfl, ⟨z_f32, z_f32, z_f32, z_f32, trivial⟩⟩
theorem ti33 : TIOK Try.prog 33 ⟨.struct [(0, 31), (1, 31), (2, 31), (3, 31)], 4, 16, [.flt .f32 0, .flt .f32 0, .flt .f32 0, .flt .f32 0], none⟩ := ⟨⟨_, Try.underlying33, rfl⟩, Try.t33, _, by kernel_rfl, rfl, rfl, rfl, ⟨z_f32, z_f32, z_f32, z_f32, trivial⟩⟩
theorem ti34 : TIOK Try.prog 34 ⟨.other, 1, 8, [.nilf], none⟩ := ⟨⟨_, Try.underlying34, (fun f h => by cases h), (fun n e h => by cases h)⟩, Try.t34, _, by kernel_rfl, rfl, rfl, rfl, ⟨z_nilf, trivial⟩⟩
theorem ti35 : TIOK Try.prog 35 ⟨.struct [(0, 31), (1, 31), (2, 31), (3, 31), (4, 31), (5, 31)], 6, 24, [.flt .f32 0, .flt .f32 0, .flt .f32 0, .flt .f32 0, .flt .f32 0, .flt .f32 0], none⟩ := ⟨⟨_, Try.underlying35, rfl⟩, Try.t35, _, by kernel_rfl, rfl, rfl, rfl, ⟨z_f32, z_f32, z_f32, z_f32, z_f32, z_f32, trivial⟩⟩
theorem ti36 : TIOK Try.prog 36 ⟨.struct [(0, 31), (1, 31), (2, 31), (3, 31), (4, 31), (5, 31)], 6, 24, [.flt .f32 0, .flt .f32 0, .flt .f32 0, .flt .f32 0, .flt .f32 0, .flt .f32 0], none⟩ := ⟨⟨_, Try.underlying36, rfl⟩, Try.t36, _, by kernel_rfl, rfl, rfl, rfl, ⟨z_f32, z_f32, z_f32, z_f32, z_f32, z_f32, trivial⟩⟩
theorem ti37 : TIOK Try.prog 37 ⟨.other, 1, 8, [.nilf], none⟩ := ⟨⟨_, Try.underlying37, (fun f h => by cases h), (fun n e h => by cases h)⟩, Try.t37, _, by kernel_rfl, rfl, rfl, rfl, ⟨z_nilf, trivial⟩⟩
theorem ti38 : TIOK Try.prog 38 ⟨.slc 44, 1, 24, [.nils], none⟩ := ⟨Try.underlying38, Try.t38, _, by kernel_rfl, rfl, rfl, rfl, ⟨z_nils, trivial⟩⟩
theorem ti40 : TIOK Try.prog 40 ⟨.other, 1, 8, [.nilf], none⟩ := ⟨⟨_, Try.underlying40, (fun f h => by cases h), (fun n e h => by cases h)⟩, Try.t40, _, by kernel_rfl, rfl, rfl, rfl, ⟨z_nilf, trivial⟩⟩
theorem ti42 : TIOK Try.prog 42 ⟨.other, 1, 8, [.nilf], none⟩ := ⟨⟨_, Try.underlying42, (fun f h => by cases h), (fun n e h => by cases h)⟩, Try.t42, _, by kernel_rfl, rfl, rfl, rfl, ⟨z_nilf, trivial⟩⟩
theorem ti43 : TIOK Try.prog 43 ⟨.struct [(0, 31), (1, 31), (2, 31)], 3, 12, [.flt .f32 0, .flt .f32 0, .flt .f32 0], none⟩ := ⟨⟨_, Try.underlying43, rfl⟩, Try.t43, _, by kernel_rfl, rfl, rfl, rfl, ⟨z_f32, z_f32, z_f32, trivial⟩⟩
theorem ti44 : TIOK Try.prog 44 ⟨.struct [(0, 31), (1, 31), (2, 31)], 3, 12, [.flt .f32 0, .flt .f32 0, .flt .f32 0], some .mark⟩ := ⟨⟨_, Try.underlying44, rfl⟩, Try.t44, _, by kernel_rfl, rfl, rfl, rfl, ⟨z_f32, z_f32, z_f32, trivial⟩⟩
theorem ti45 : TIOK Try.prog 45 ⟨.other, 1, 8, [.nilf], none⟩ := ⟨⟨_, Try.underlying45, (fun f h => by cases h), (fun n e h => by cases h)⟩, Try.t45, _, by kernel_rfl, rfl, rfl, rfl, ⟨z_nilf, trivial⟩⟩
theorem ti47 : TIOK Try.prog 47 ⟨.other, 1, 8, [.nilf], none⟩ := ⟨⟨_, Try.underlying47, (fun f h => by cases h), (fun n e h => by cases h)⟩, Try.t47, _, by kernel_rfl, rfl, rfl, rfl, ⟨z_nilf, trivial⟩⟩
theorem ti48 : TIOK Try.prog 48 ⟨.struct [(0, 31), (1, 31), (2, 31)], 3, 12, [.flt .f32 0, .flt .f32 0, .flt .f32 0], none⟩ := ⟨⟨_, Try.underlying48, rfl⟩, Try.t48, _, by kernel_rfl, rfl, rfl, rfl, ⟨z_f32, z_f32, z_f32, trivial⟩⟩
theorem ti49 : TIOK Try.prog 49 ⟨.struct [(0, 31), (1, 31), (2, 31)], 3, 12, [.flt .f32 0, .flt .f32 0, .flt .f32 0], some .vec⟩ := ⟨⟨_, Try.underlying49, rfl⟩, Try.t49, _, by kernel_rfl, rfl, rfl, rfl, ⟨z_f32, z_f32, z_f32, trivial⟩⟩
theorem ti51 : TIOK Try.prog 51 ⟨.other, 1, 8, [.nilf], none⟩ := ⟨⟨_, Try.underlying51, (fun f h => by cases h), (fun n e h => by cases h)⟩, Try.t51, _, by kernel_rfl, rfl, rfl, rfl, ⟨z_nilf, trivial⟩⟩
theorem ti53 : TIOK Try.prog 53 ⟨.other, 1, 8, [.nilf], none⟩ := ⟨⟨_, Try.underlying53, (fun f h => by cases h), (fun n e h => by cases h)⟩, Try.t53, _, by kernel_rfl, rfl, rfl, rfl, ⟨z_nilf, trivial⟩⟩
theorem ti54 : TIOK Try.prog 54 ⟨.other, 1, 8, [.nilf], none⟩ := ⟨⟨_, Try.underlying54, (fun f h => by cases h), (fun n e h => by cases h)⟩, Try.t54, _, by kernel_rfl, rfl, rfl, rfl, ⟨z_nilf, trivial⟩⟩
theorem ti56 : TIOK Try.prog 56 ⟨.other, 1, 8, [.nilf], none⟩ := ⟨⟨_, Try.underlying56, (fun f h => by cases h), (fun n e h => by cases h)⟩, Try.t56, _, by kernel_rfl, rfl, rfl, rfl, ⟨z_nilf, trivial⟩⟩
theorem ti58 : TIOK Try.prog 58 ⟨.other, 1, 8, [.nilf], none⟩ := ⟨⟨_, Try.underlying58, (fun f h => by cases h), (fun n e h => by cases h)⟩, Try.t58, _, by kernel_rfl, rfl, rfl, rfl, ⟨z_nilf, trivial⟩⟩
theorem ti59 : TIOK Try.prog 59 ⟨.other, 1, 8, [.nilf], none⟩ := ⟨⟨_, Try.underlying59, (fun f h => by cases h), (fun n e h => by cases h)⟩, Try.t59, _, by kernel_rfl, rfl, rfl, rfl, ⟨z_nilf, trivial⟩⟩
theorem ti60 : TIOK Try.prog 60 ⟨.other, 1, 8, [.nilf], none⟩ := ⟨⟨_, Try.underlying60, (fun f h => by cases h), (fun n e h => by cases h)⟩, Try.t60, _, by kernel_rfl, rfl, rfl, rfl, ⟨z_nilf, trivial⟩⟩
theorem ti61 : TIOK Try.prog 61 ⟨.slc 72, 1, 24, [.nils], none⟩ := ⟨Try.underlying61, Try.t61, _, by kernel_rfl, rfl, rfl, rfl, ⟨z_nils, trivial⟩⟩
theorem ti62 : TIOK Try.prog 62 ⟨.other, 1, 8, [.nilf], none⟩ := ⟨⟨_, Try.underlying62, (fun f h => by cases h), (fun n e h => by cases h)⟩, Try.t62, _, by kernel_rfl, rfl, rfl, rfl, ⟨z_nilf, trivial⟩⟩
theorem ti63 : TIOK Try.prog 63 ⟨.slc 49, 1, 24, [.nils], none⟩ := ⟨Try.underlying63, Try.t63, _, by kernel_rfl, rfl, rfl, rfl, ⟨z_nils, trivial⟩⟩
theorem ti65 : TIOK Try.prog 65 ⟨.other, 1, 8, [.nilf], none⟩ := ⟨⟨_, Try.underlying65, (fun f h => by cases h), (fun n e h => by cases h)⟩, Try.t65, _, by kernel_rfl, rfl, rfl, rfl, ⟨z_nilf, trivial⟩⟩
theorem ti67 : TIOK Try.prog 67 ⟨.other, 1, 8, [.nilf], none⟩ := ⟨⟨_, Try.underlying67, (fun f h => by cases h), (fun n e h => by cases h)⟩, Try.t67, _, by kernel_rfl, rfl, rfl, rfl, ⟨z_nilf, trivial⟩⟩
theorem ti68 : TIOK Try.prog 68 ⟨.other, 1, 8, [.nilf], none⟩ := ⟨⟨_, Try.underlying68, (fun f h => by cases h), (fun n e h => by cases h)⟩, Try.t68, _, by kernel_rfl, rfl, rfl, rfl, ⟨z_nilf, trivial⟩⟩
theorem ti69 : TIOK Try.prog 69 ⟨.other, 1, 8, [.nilf], none⟩ := ⟨⟨_, Try.underlying69, (fun f h => by cases h), (fun n e h => by cases h)⟩, Try.t69, _, by kernel_rfl, rfl, rfl, rfl, ⟨z_nilf, trivial⟩⟩
theorem ti70 : TIOK Try.prog 70 ⟨.other, 1, 8, [.nilf], none⟩ := ⟨⟨_, Try.underlying70, (fun f h => by cases h), (fun n e h => by cases h)⟩, Try.t70, _, by kernel_rfl, rfl, rfl, rfl, ⟨z_nilf, trivial⟩⟩
theorem ti71 : TIOK Try.prog 71 ⟨.struct [(0, 49), (3, 49), (6, 31)], 7, 28, [.flt .f32 0, .flt .f32 0, .flt .f32 0, .flt .f32 0, .flt .f32 0, .flt .f32 0, .flt .f32 0], none⟩ := ⟨⟨_, Try.underlying71, rfl⟩, Try.t71, _, by kernel_rfl, rfl, rfl, rfl, ⟨z_f32, z_f32, z_f32, z_f32, z_f32, z_f32, z_f32, trivial⟩⟩
theorem ti72 : TIOK Try.prog 72 ⟨.struct [(0, 49), (3, 49), (6, 31)], 7, 28, [.flt .f32 0, .flt .f32 0, .flt .f32 0, .flt .f32 0, .flt .f32 0, .flt .f32 0, .flt .f32 0], some .body⟩ := ⟨⟨_, Try.underlying72, rfl⟩, Try.t72, _, by kernel_rfl, rfl, rfl, rfl, ⟨z_f32, z_f32, z_f32, z_f32, z_f32, z_f32, z_f32, trivial⟩⟩
theorem ti73 : TIOK Try.prog 73 ⟨.flt .f64, 1, 8, [.flt .f64 0], some (.flt .f64)⟩ := ⟨Try.underlying73, Try.t73, _, by kernel_rfl, rfl, rfl, rfl, ⟨z_f64, trivial⟩⟩
theorem ti74 : TIOK Try.prog 74 ⟨.other, 1, 8, [.nilf], none⟩ := ⟨⟨_, Try.underlying74, (fun f h => by cases h), (fun n e h => by cases h)⟩, Try.t74, _, by kernel_rfl, rfl, rfl, rfl, ⟨z_nilf, trivial⟩⟩
theorem ti75 : TIOK Try.prog 75 ⟨.other, 1, 8, [.nilf], none⟩ := ⟨⟨_, Try.underlying75, (fun f h => by cases h), (fun n e h => by cases h)⟩, Try.t75, _, by kernel_rfl, rfl, rfl, rfl, ⟨z_nilf, trivial⟩⟩
theorem ti76 : TIOK Try.prog 76 ⟨.other, 1, 8, [.nilf], none⟩ := ⟨⟨_, Try.underlying76, (fun f h => by cases h), (fun n e h => by cases h)⟩, Try.t76, _, by kernel_rfl, rfl, rfl, rfl, ⟨z_nilf, trivial⟩⟩
theorem ti78 : TIOK Try.prog 78 ⟨.other, 1, 8, [.nilf], none⟩ := ⟨⟨_, Try.underlying78, (fun f h => by cases h), (fun n e h => by cases h)⟩, Try.t78, _, by kernel_rfl, rfl, rfl, rfl, ⟨z_nilf, trivial⟩⟩
theorem ti79 : TIOK Try.prog 79 ⟨.other, 1, 8, [.nilf], none⟩ := ⟨⟨_, Try.underlying79, (fun f h => by cases h), (fun n e h => by cases h)⟩, Try.t79, _, by kernel_rfl, rfl, rfl, rfl, ⟨z_nilf, trivial⟩⟩
theorem ti80 : TIOK Try.prog 80 ⟨.other, 1, 8, [.nilf], none⟩ := ⟨⟨_, Try.underlying80, (fun f h => by cases h), (fun n e h => by cases h)⟩, Try.t80, _, by kernel_rfl, rfl, rfl, rfl, ⟨z_nilf, trivial⟩⟩
theorem ti81 : TIOK Try.prog 81 ⟨.other, 1, 8, [.nilf], none⟩ := ⟨⟨_, Try.underlying81, (fun f h => by cases h), (fun n e h => by cases h)⟩, Try.t81, _, by kernel_rfl, rfl, rfl, rfl, ⟨z_nilf, trivial⟩⟩
theorem ti82 : TIOK Try.prog 82 ⟨.other, 1, 8, [.nilf], none⟩ := ⟨⟨_, Try.underlying82, (fun f h => by cases h), (fun n e h => by cases h)⟩, Try.t82, _, by kernel_rfl, rfl, rfl, rfl, ⟨z_nilf, trivial⟩⟩
theorem ti83 : TIOK Try.prog 83 ⟨.ptr 120, 1, 8, [.nilp], none⟩ := ⟨Try.underlying83, Try.t83, _, by kernel_rfl, rfl, rfl, rfl, ⟨z_nilp, trivial⟩⟩
theorem ti84 : TIOK Try.prog 84 ⟨.other, 1, 8, [.nilf], none⟩ := ⟨⟨_, Try.underlying84, (fun f h => by cases h), (fun n e h => by cases h)⟩, Try.t84, _, by kernel_rfl, rfl, rfl, rfl, ⟨z_nilf, trivial⟩⟩
theorem ti85 : TIOK Try.prog 85 ⟨.other, 1, 8, [.nilf], none⟩ := ⟨⟨_, Try.underlying85, (fun f h => by cases h), (fun n e h => by cases h)⟩, Try.t85, _, by kernel_rfl, rfl, rfl, rfl, ⟨z_nilf, trivial⟩⟩
theorem ti86 : TIOK Try.prog 86 ⟨.other, 1, 8, [.nilf], none⟩ := ⟨⟨_, Try.underlying86, (fun f h => by cases h), (fun n e h => by cases h)⟩, Try.t86, _, by kernel_rfl, rfl, rfl, rfl, ⟨z_nilf, trivial⟩⟩
theorem ti87 : TIOK Try.prog 87 ⟨.other, 1, 8, [.nilf], none⟩ := ⟨⟨_, Try.underlying87, (fun f h => by cases h), (fun n e h => by cases h)⟩, Try.t87, _, by kernel_rfl, rfl, rfl, rfl, ⟨z_nilf, trivial⟩⟩
theorem ti88 : TIOK Try.prog 88 ⟨.other, 1, 8, [.nilf], none⟩ := ⟨⟨_, Try.underlying88, (fun f h => by cases h), (fun n e h => by cases h)⟩, Try.t88, _, by kernel_rfl, rfl, rfl, rfl, ⟨z_nilf, trivial⟩⟩
theorem ti89 : TIOK Try.prog 89 ⟨.other, 1, 8, [.nilf], none⟩ := ⟨⟨_, Try.underlying89, (fun f h => by cases h), (fun n e h => by cases h)⟩, Try.t89, _, by kernel_rfl, rfl, rfl, rfl, ⟨z_nilf, trivial⟩⟩
theorem ti90 : TIOK Try.prog 90 ⟨.other, 1, 8, [.nilf], none⟩ := ⟨⟨_, Try.underlying90, (fun f h => by cases h), (fun n e h => by cases h)⟩, Try.t90, _, by kernel_rfl, rfl, rfl, rfl, ⟨z_nilf, trivial⟩⟩
theorem ti91 : TIOK Try.prog 91 ⟨.other, 1, 8, [.nilf], none⟩ := ⟨⟨_, Try.underlying91, (fun f h => by cases h), (fun n e h => by cases h)⟩, Try.t91, _, by kernel_rfl, rfl, rfl, rfl, ⟨z_nilf, trivial⟩⟩
theorem ti92 : TIOK Try.prog 92 ⟨.other, 1, 8, [.nilf], none⟩ := ⟨⟨_, Try.underlying92, (fun f h => by cases h), (fun n e h => by cases h)⟩, Try.t92, _, by kernel_rfl, rfl, rfl, rfl, ⟨z_nilf, trivial⟩⟩
theorem ti93 : TIOK Try.prog 93 ⟨.other, 1, 8, [.nilf], none⟩ := ⟨⟨_, Try.underlying93, (fun f h => by cases h), (fun n e h => by cases h)⟩, Try.t93, _, by kernel_rfl, rfl, rfl, rfl, ⟨z_nilf, trivial⟩⟩
theorem ti94 : TIOK Try.prog 94 ⟨.other, 1, 8, [.nilf], none⟩ := ⟨⟨_, Try.underlying94, (fun f h => by cases h), (fun n e h => by cases h)⟩, Try.t94, _, by kernel_rfl, rfl, rfl, rfl, ⟨z_nilf, trivial⟩⟩
theorem ti96 : TIOK Try.prog 96 ⟨.other, 1, 8, [.nilf], none⟩ := ⟨⟨_, Try.underlying96, (fun f h => by cases h), (fun n e h => by cases h)⟩, Try.t96, _, by kernel_rfl, rfl, rfl, rfl, ⟨z_nilf, trivial⟩⟩
theorem ti97 : TIOK Try.prog 97 ⟨.other, 1, 8, [.nilf], none⟩ := ⟨⟨_, Try.underlying97, (fun f h => by cases h), (fun n e h => by cases h)⟩, Try.t97, _, by kernel_rfl, rfl, rfl, rfl, ⟨z_nilf, trivial⟩⟩
theorem ti98 : TIOK Try.prog 98 ⟨.other, 1, 8, [.nilf], none⟩ := ⟨⟨_, Try.underlying98, (fun f h => by cases h), (fun n e h => by cases h)⟩, Try.t98, _, by kernel_rfl, rfl, rfl, rfl, ⟨z_nilf, trivial⟩⟩
theorem ti99 : TIOK Try.prog 99 ⟨.other, 1, 8, [.nilf], none⟩ := ⟨⟨_, Try.underlying99, (fun f h => by cases h), (fun n e h => by cases h)⟩, Try.t99, _, by kernel_rfl, rfl, rfl, rfl, ⟨z_nilf, trivial⟩⟩
theorem ti100 : TIOK Try.prog 100 ⟨.other, 1, 8, [.nilf], none⟩ := ⟨⟨_, Try.underlying100, (fun f h => by cases h), (fun n e h => by cases h)⟩, Try.t100, _, by kernel_rfl, rfl, rfl, rfl, ⟨z_nilf, trivial⟩⟩
theorem ti101 : TIOK Try.prog 101 ⟨.slc 31, 1, 24, [.nils], none⟩ := ⟨Try.underlying101, Try.t101, _, by kernel_rfl, rfl, rfl, rfl, ⟨z_nils, trivial⟩⟩
theorem ti102 : TIOK Try.prog 102 ⟨.other, 1, 8, [.nilf], none⟩ := ⟨⟨_, Try.underlying102, (fun f h => by cases h), (fun n e h => by cases h)⟩, Try.t102, _, by kernel_rfl, rfl, rfl, rfl, ⟨z_nilf, trivial⟩⟩
theorem ti103 : TIOK Try.prog 103 ⟨.other, 1, 8, [.nilf], none⟩ := ⟨⟨_, Try.underlying103, (fun f h => by cases h), (fun n e h => by cases h)⟩, Try.t103, _, by kernel_rfl, rfl, rfl, rfl, ⟨z_nilf, trivial⟩⟩
theorem ti104 : TIOK Try.prog 104 ⟨.other, 1, 8, [.nilf], none⟩ := ⟨⟨_, Try.underlying104, (fun f h => by cases h), (fun n e h => by cases h)⟩, Try.t104, _, by kernel_rfl, rfl, rfl, rfl, ⟨z_nilf, trivial⟩⟩
theorem ti105 : TIOK Try.prog 105 ⟨.other, 1, 8, [.nilf], none⟩ := ⟨⟨_, Try.underlying105, (fun f h => by cases h), (fun n e h => by cases h)⟩, Try.t105, _, by kernel_rfl, rfl, rfl, rfl, ⟨z_nilf, trivial⟩⟩
theorem ti106 : TIOK Try.prog 106 ⟨.other, 1, 8, [.nilf], none⟩ := ⟨⟨_, Try.underlying106, (fun f h => by cases h), (fun n e h => by cases h)⟩, Try.t106, _, by kernel_rfl, rfl, rfl, rfl, ⟨z_nilf, trivial⟩⟩
theorem ti107 : TIOK Try.prog 107 ⟨.other, 1, 8, [.nilf], none⟩ := ⟨⟨_, Try.underlying107, (fun f h => by cases h), (fun n e h => by cases h)⟩, Try.t107, _, by kernel_rfl, rfl, rfl, rfl, ⟨z_nilf, trivial⟩⟩
theorem ti108 : TIOK Try.prog 108 ⟨.other, 1, 8, [.nilf], none⟩ := ⟨⟨_, Try.underlying108, (fun f h => by cases h), (fun n e h => by cases h)⟩, Try.t108, _, by kernel_rfl, rfl, rfl, rfl, ⟨z_nilf, trivial⟩⟩
theorem ti109 : TIOK Try.prog 109 ⟨.other, 1, 8, [.nilf], none⟩ := ⟨⟨_, Try.underlying109, (fun f h => by cases h), (fun n e h => by cases h)⟩, Try.t109, _, by kernel_rfl, rfl, rfl, rfl, ⟨z_nilf, trivial⟩⟩
theorem ti110 : TIOK Try.prog 110 ⟨.other, 1, 8, [.nilf], none⟩ := ⟨⟨_, Try.underlying110, (fun f h => by cases h), (fun n e h => by cases h)⟩, Try.t110, _, by kernel_rfl, rfl, rfl, rfl, ⟨z_nilf, trivial⟩⟩
theorem ti111 : TIOK Try.prog 111 ⟨.other, 1, 8, [.nilf], none⟩ := ⟨⟨_, Try.underlying111, (fun f h => by cases h), (fun n e h => by cases h)⟩, Try.t111, _, by kernel_rfl, rfl, rfl, rfl, ⟨z_nilf, trivial⟩⟩
theorem ti112 : TIOK Try.prog 112 ⟨.other, 1, 8, [.nilf], none⟩ := ⟨⟨_, Try.underlying112, (fun f h => by cases h), (fun n e h => by cases h)⟩, Try.t112, _, by kernel_rfl, rfl, rfl, rfl, ⟨z_nilf, trivial⟩⟩
theorem ti113 : TIOK Try.prog 113 ⟨.other, 1, 8, [.nilf], none⟩ := ⟨⟨_, Try.underlying113, (fun f h => by cases h), (fun n e h => by cases h)⟩, Try.t113, _, by kernel_rfl, rfl, rfl, rfl, ⟨z_nilf, trivial⟩⟩
theorem ti114 : TIOK Try.prog 114 ⟨.other, 1, 8, [.nilf], none⟩ := ⟨⟨_, Try.underlying114, (fun f h => by cases h), (fun n e h => by cases h)⟩, Try.t114, _, by kernel_rfl, rfl, rfl, rfl, ⟨z_nilf, trivial⟩⟩
theorem ti115 : TIOK Try.prog 115 ⟨.other, 1, 8, [.nilf], none⟩ := ⟨⟨_, Try.underlying115, (fun f h => by cases h), (fun n e h => by cases h)⟩, Try.t115, _, by kernel_rfl, rfl, rfl, rfl, ⟨z_nilf, trivial⟩⟩
theorem ti116 : TIOK Try.prog 116 ⟨.other, 1, 8, [.nilf], none⟩ := ⟨⟨_, Try.underlying116, (fun f h => by cases h), (fun n e h => by cases h)⟩, Try.t116, _, by kernel_rfl, rfl, rfl, rfl, ⟨z_nilf, trivial⟩⟩
theorem ti117 : TIOK Try.prog 117 ⟨.other, 1, 8, [.nilf], none⟩ := ⟨⟨_, Try.underlying117, (fun f h => by cases h), (fun n e h => by cases h)⟩, Try.t117, _, by kernel_rfl, rfl, rfl, rfl, ⟨z_nilf, trivial⟩⟩
theorem ti118 : TIOK Try.prog 118 ⟨.int .u64, 1, 8, [.int .u64 0], some (.int .u64)⟩ := ⟨Try.underlying118, Try.t118, _, by kernel_rfl, rfl, rfl, rfl, ⟨z_int, trivial⟩⟩
theorem ti119 : TIOK Try.prog 119 ⟨.struct [(0, 22), (1, 3), (2, 118)], 3, 40, [.nils, .int .i64 0, .int .u64 0], none⟩ := ⟨⟨_, Try.underlying119, rfl⟩, Try.t119, _, by kernel_rfl, rfl, rfl, rfl, ⟨z_nils, z_int, z_int, trivial⟩⟩
theorem ti120 : TIOK Try.prog 120 ⟨.struct [(0, 22), (1, 3), (2, 118)], 3, 40, [.nils, .int .i64 0, .int .u64 0], none⟩ := ⟨⟨_, Try.underlying120, rfl⟩, Try.t120, _, by kernel_rfl, rfl, rfl, rfl, ⟨z_nils, z_int, z_int, trivial⟩⟩
theorem ti121 : TIOK Try.prog 121 ⟨.other, 1, 8, [.nilf], none⟩ := ⟨⟨_, Try.underlying121, (fun f h => by cases h), (fun n e h => by cases h)⟩, Try.t121, _, by kernel_rfl, rfl, rfl, rfl, ⟨z_nilf, trivial⟩⟩
theorem ti122 : TIOK Try.prog 122 ⟨.other, 1, 8, [.nilf], none⟩ := ⟨⟨_, Try.underlying122, (fun f h => by cases h), (fun n e h => by cases h)⟩, Try.t122, _, by kernel_rfl, rfl, rfl, rfl, ⟨z_nilf, trivial⟩⟩
theorem ti123 : TIOK Try.prog 123 ⟨.other, 1, 8, [.nilf], none⟩ := ⟨⟨_, Try.underlying123, (fun f h => by cases h), (fun n e h => by cases h)⟩, Try.t123, _, by kernel_rfl, rfl, rfl, rfl, ⟨z_nilf, trivial⟩⟩
theorem ti124 : TIOK Try.prog 124 ⟨.other, 1, 8, [.nilf], none⟩ := ⟨⟨_, Try.underlying124, (fun f h => by cases h), (fun n e h => by cases h)⟩, Try.t124, _, by kernel_rfl, rfl, rfl, rfl, ⟨z_nilf, trivial⟩⟩
theorem ti125 : TIOK Try.prog 125 ⟨.other, 1, 8, [.nilf], none⟩ := ⟨⟨_, Try.underlying125, (fun f h => by cases h), (fun n e h => by cases h)⟩, Try.t125, _, by kernel_rfl, rfl, rfl, rfl, ⟨z_nilf, trivial⟩⟩
theorem ti127 : TIOK Try.prog 127 ⟨.other, 1, 8, [.nilf], none⟩ := ⟨⟨_, Try.underlying127, (fun f h => by cases h), (fun n e h => by cases h)⟩, Try.t127, _, by kernel_rfl, rfl, rfl, rfl, ⟨z_nilf, trivial⟩⟩
theorem ti128 : TIOK Try.prog 128 ⟨.other, 1, 8, [.nilf], none⟩ := ⟨⟨_, Try.underlying128, (fun f h => by cases h), (fun n e h => by cases h)⟩, Try.t128, _, by kernel_rfl, rfl, rfl, rfl, ⟨z_nilf, trivial⟩⟩
theorem ti129 : TIOK Try.prog 129 ⟨.other, 1, 8, [.nilf], none⟩ := ⟨⟨_, Try.underlying129, (fun f h => by cases h), (fun n e h => by cases h)⟩, Try.t129, _, by kernel_rfl, rfl, rfl, rfl, ⟨z_nilf, trivial⟩⟩
theorem ti130 : TIOK Try.prog 130 ⟨.other, 1, 8, [.nilf], none⟩ := ⟨⟨_, Try.underlying130, (fun f h => by cases h), (fun n e h => by cases h)⟩, Try.t130, _, by kernel_rfl, rfl, rfl, rfl, ⟨z_nilf, trivial⟩⟩
theorem ti131 : TIOK Try.prog 131 ⟨.other, 1, 8, [.nilf], none⟩ := ⟨⟨_, Try.underlying131, (fun f h => by cases h), (fun n e h => by cases h)⟩, Try.t131, _, by kernel_rfl, rfl, rfl, rfl, ⟨z_nilf, trivial⟩⟩
theorem ti132 : TIOK Try.prog 132 ⟨.other, 1, 8, [.nilf], none⟩ := ⟨⟨_, Try.underlying132, (fun f h => by cases h), (fun n e h => by cases h)⟩, Try.t132, _, by kernel_rfl, rfl, rfl, rfl, ⟨z_nilf, trivial⟩⟩
theorem ti133 : TIOK Try.prog 133 ⟨.other, 1, 8, [.nilf], none⟩ := ⟨⟨_, Try.underlying133, (fun f h => by cases h), (fun n e h => by cases h)⟩, Try.t133, _, by kernel_rfl, rfl, rfl, rfl, ⟨z_nilf, trivial⟩⟩
theorem ti134 : TIOK Try.prog 134 ⟨.other, 1, 8, [.nilf], none⟩ := ⟨⟨_, Try.underlying134, (fun f h => by cases h), (fun n e h => by cases h)⟩, Try.t134, _, by kernel_rfl, rfl, rfl, rfl, ⟨z_nilf, trivial⟩⟩
theorem ti135 : TIOK Try.prog 135 ⟨.other, 1, 8, [.nilf], none⟩ := ⟨⟨_, Try.underlying135, (fun f h => by cases h), (fun n e h => by cases h)⟩, Try.t135, _, by kernel_rfl, rfl, rfl, rfl, ⟨z_nilf, trivial⟩⟩
theorem ti136 : TIOK Try.prog 136 ⟨.other, 1, 8, [.nilf], none⟩ := ⟨⟨_, Try.underlying136, (fun f h => by cases h), (fun n e h => by cases h)⟩, Try.t136, _, by kernel_rfl, rfl, rfl, rfl, ⟨z_nilf, trivial⟩⟩
theorem ti137 : TIOK Try.prog 137 ⟨.other, 1, 8, [.nilf], none⟩ := ⟨⟨_, Try.underlying137, (fun f h => by cases h), (fun n e h => by cases h)⟩, Try.t137, _, by kernel_rfl, rfl, rfl, rfl, ⟨z_nilf, trivial⟩⟩
theorem ti138 : TIOK Try.prog 138 ⟨.slc 61, 1, 24, [.nils], none⟩ := ⟨Try.underlying138, Try.t138, _, by kernel_rfl, rfl, rfl, rfl, ⟨z_nils, trivial⟩⟩
theorem ti139 : TIOK Try.prog 139 ⟨.other, 1, 8, [.nilf], none⟩ := ⟨⟨_, Try.underlying139, (fun f h => by cases h), (fun n e h => by cases h)⟩, Try.t139, _, by kernel_rfl, rfl, rfl, rfl, ⟨z_nilf, trivial⟩⟩
theorem ti140 : TIOK Try.prog 140 ⟨.int .u64, 1, 8, [.int .u64 0], some (.int .u64)⟩ := ⟨Try.underlying140, Try.t140, _, by kernel_rfl, rfl, rfl, rfl, ⟨z_int, trivial⟩⟩
theorem ti141 : TIOK Try.prog 141 ⟨.other, 1, 8, [.nilf], none⟩ := ⟨⟨_, Try.underlying141, (fun f h => by cases h), (fun n e h => by cases h)⟩, Try.t141, _, by kernel_rfl, rfl, rfl, rfl, ⟨z_nilf, trivial⟩⟩
theorem ti142 : TIOK Try.prog 142 ⟨.other, 1, 8, [.nilf], none⟩ := ⟨⟨_, Try.underlying142, (fun f h => by cases h), (fun n e h => by cases h)⟩, Try.t142, _, by kernel_rfl, rfl, rfl, rfl, ⟨z_nilf, trivial⟩⟩
theorem ti143 : TIOK Try.prog 143 ⟨.other, 1, 8, [.nilf], none⟩ := ⟨⟨_, Try.underlying143, (fun f h => by cases h), (fun n e h => by cases h)⟩, Try.t143, _, by kernel_rfl, rfl, rfl, rfl, ⟨z_nilf, trivial⟩⟩
theorem ti144 : TIOK Try.prog 144 ⟨.other, 1, 8, [.nilf], none⟩ := ⟨⟨_, Try.underlying144, (fun f h => by cases h), (fun n e h => by cases h)⟩, Try.t144, _, by kernel_rfl, rfl, rfl, rfl, ⟨z_nilf, trivial⟩⟩
theorem ti145 : TIOK Try.prog 145 ⟨.other, 1, 8, [.nilf], none⟩ := ⟨⟨_, Try.underlying145, (fun f h => by cases h), (fun n e h => by cases h)⟩, Try.t145, _, by kernel_rfl, rfl, rfl, rfl, ⟨z_nilf, trivial⟩⟩
theorem ti146 : TIOK Try.prog 146 ⟨.other, 1, 8, [.nilf], none⟩ := ⟨⟨_, Try.underlying146, (fun f h => by cases h), (fun n e h => by cases h)⟩, Try.t146, _, by kernel_rfl, rfl, rfl, rfl, ⟨z_nilf, trivial⟩⟩
theorem ti147 : TIOK Try.prog 147 ⟨.other, 1, 8, [.nilf], none⟩ := ⟨⟨_, Try.underlying147, (fun f h => by cases h), (fun n e h => by cases h)⟩, Try.t147, _, by kernel_rfl, rfl, rfl, rfl, ⟨z_nilf, trivial⟩⟩
theorem ti149 : TIOK Try.prog 149 ⟨.other, 1, 8, [.nilf], none⟩ := ⟨⟨_, Try.underlying149, (fun f h => by cases h), (fun n e h => by cases h)⟩, Try.t149, _, by kernel_rfl, rfl, rfl, rfl, ⟨z_nilf, trivial⟩⟩
theorem ti150 : TIOK Try.prog 150 ⟨.other, 1, 8, [.nilf], none⟩ := ⟨⟨_, Try.underlying150, (fun f h => by cases h), (fun n e h => by cases h)⟩, Try.t150, _, by kernel_rfl, rfl, rfl, rfl, ⟨z_nilf, trivial⟩⟩
theorem ti151 : TIOK Try.prog 151 ⟨.other, 1, 8, [.nilf], none⟩ := ⟨⟨_, Try.underlying151, (fun f h => by cases h), (fun n e h => by cases h)⟩, Try.t151, _, by kernel_rfl, rfl, rfl, rfl, ⟨z_nilf, trivial⟩⟩
theorem ti152 : TIOK Try.prog 152 ⟨.struct [(0, 17), (1, 17), (2, 17), (3, 9)], 4, 40, [.nilp, .nilp, .nilp, .str []], none⟩ := ⟨⟨_, Try.underlying152, rfl⟩, Try.t152, _, by kernel_rfl, rfl, rfl, rfl, ⟨z_nilp, z_nilp, z_nilp, z_str rfl, trivial⟩⟩
theorem ti153 : TIOK Try.prog 153 ⟨.struct [(0, 17), (1, 17), (2, 17), (3, 9)], 4, 40, [.nilp, .nilp, .nilp, .str []], none⟩ := ⟨⟨_, Try.underlying153, rfl⟩, Try.t153, _, by kernel_rfl, rfl, rfl, rfl, ⟨z_nilp, z_nilp, z_nilp, z_str rfl, trivial⟩⟩
theorem ti154 : TIOK Try.prog 154 ⟨.arr 0 16, 0, 0, [], none⟩ := ⟨Try.underlying154, Try.t154, _, by kernel_rfl, rfl, rfl, rfl, trivial⟩
theorem ti155 : TIOK Try.prog 155 ⟨.struct [(0, 154)], 0, 0, [], none⟩ := ⟨⟨_, Try.underlying155, rfl⟩, Try.t155, _, by kernel_rfl, rfl, rfl, rfl, trivial⟩
theorem ti156 : TIOK Try.prog 156 ⟨.struct [(0, 154)], 0, 0, [], none⟩ := ⟨⟨_, Try.underlying156, rfl⟩, Try.t156, _, by kernel_rfl, rfl, rfl, rfl, trivial⟩
theorem ti157 : TIOK Try.prog 157 ⟨.other, 1, 8, [.nilf], none⟩ := ⟨⟨_, Try.underlying157, (fun f h => by cases h), (fun n e h => by cases h)⟩, Try.t157, _, by kernel_rfl, rfl, rfl, rfl, ⟨z_nilf, trivial⟩⟩
theorem ti158 : TIOK Try.prog 158 ⟨.int .u32, 1, 4, [.int .u32 0], some (.int .u32)⟩ := ⟨Try.underlying158, Try.t158, _, by kernel_rfl, rfl, rfl, rfl, ⟨z_int, trivial⟩⟩
theorem ti159 : TIOK Try.prog 159 ⟨.int .u8, 1, 1, [.int .u8 0], some (.int .u8)⟩ := ⟨Try.underlying159, Try.t159, _, by kernel_rfl, rfl, rfl, rfl, ⟨z_int, trivial⟩⟩
theorem ti160 : TIOK Try.prog 160 ⟨.int .u8, 1, 1, [.int .u8 0], some (.int .u8)⟩ := ⟨Try.underlying160, Try.t160, _, by kernel_rfl, rfl, rfl, rfl, ⟨z_int, trivial⟩⟩
theorem ti161 : TIOK Try.prog 161 ⟨.other, 1, 8, [.nilf], none⟩ := ⟨⟨_, Try.underlying161, (fun f h => by cases h), (fun n e h => by cases h)⟩, Try.t161, _, by kernel_rfl, rfl, rfl, rfl, ⟨z_nilf, trivial⟩⟩
theorem ti162 : TIOK Try.prog 162 ⟨.ptr 5, 1, 8, [.nilp], none⟩ := ⟨Try.underlying162, Try.t162, _, by kernel_rfl, rfl, rfl, rfl, ⟨z_nilp, trivial⟩⟩
theorem ti163 : TIOK Try.prog 163 ⟨.int .i32, 1, 4, [.int .i32 0], some (.int .i32)⟩ := ⟨Try.underlying163, Try.t163, _, by kernel_rfl, rfl, rfl, rfl, ⟨z_int, trivial⟩⟩
theorem ti164 : TIOK Try.prog 164 ⟨.int .i32, 1, 4, [.int .i32 0], some (.int .i32)⟩ := ⟨Try.underlying164, Try.t164, _, by kernel_rfl, rfl, rfl, rfl, ⟨z_int, trivial⟩⟩
theorem ti165 : TIOK Try.prog 165 ⟨.struct [(0, 12), (1, 12), (2, 158), (3, 159), (4, 5), (5, 5), (6, 160), (7, 161), (8, 162), (9, 163), (10, 164)], 11, 48, [.int .u64 0, .int .u64 0, .int .u32 0, .int .u8 0, .int .u8 0, .int .u8 0, .int .u8 0, .nilf, .nilp, .int .i32 0, .int .i32 0], none⟩ := ⟨⟨_, Try.underlying165, rfl⟩, Try.t165, _, by kernel_rfl, rfl, rfl, rfl, ⟨z_int, z_int, z_int, z_int, z_int, z_int, z_int, z_nilf, z_nilp, z_int, z_int, trivial⟩⟩
theorem ti166 : TIOK Try.prog 166 ⟨.struct [(0, 12), (1, 12), (2, 158), (3, 159), (4, 5), (5, 5), (6, 160), (7, 161), (8, 162), (9, 163), (10, 164)], 11, 48, [.int .u64 0, .int .u64 0, .int .u32 0, .int .u8 0, .int .u8 0, .int .u8 0, .int .u8 0, .nilf, .nilp, .int .i32 0, .int .i32 0], none⟩ := ⟨⟨_, Try.underlying166, rfl⟩, Try.t166, _, by kernel_rfl, rfl, rfl, rfl, ⟨z_int, z_int, z_int, z_int, z_int, z_int, z_int, z_nilf, z_nilp, z_int, z_int, trivial⟩⟩
theorem ti167 : TIOK Try.prog 167 ⟨.other, 1, 8, [.nilp], none⟩ := ⟨⟨_, Try.underlying167, (fun f h => by cases h), (fun n e h => by cases h)⟩, Try.t167, _, by kernel_rfl, rfl, rfl, rfl, ⟨z_nilp, trivial⟩⟩
def tget : List (Nat × TI) → TT
  | [], _ => none
  | (n, i) :: r, t => bif n == t then some i else tget r t
def tget2 : List (List (Nat × TI)) → TT
  | [], _ => none
  | l :: r, t => match tget l t with
    | some i => some i
    | none => tget2 r t
def AllT (P : Program) : List (Nat × TI) → Prop
  | [] => True
  | x :: r => TIOK P x.1 x.2 ∧ AllT P r
def AllT2 (P : Program) : List (List (Nat × TI)) → Prop
  | [] => True
  | x :: r => AllT P x ∧ AllT2 P r
theorem tget_ok {P : Program} : ∀ (l : List (Nat × TI)), AllT P l → TTOK P (tget l)
  | [], _ => fun t i h => by simp [tget] at h
  | (n, j) :: r, hl => fun t i h => by
    simp only [tget, cond_eq_ite, beq_iff_eq] at h
    by_cases q : n = t
    · rw [if_pos q] at h; cases h; subst q; exact hl.1
    · rw [if_neg q] at h; exact tget_ok r hl.2 t i h
theorem tget2_ok {P : Program} : ∀ (l : List (List (Nat × TI))), AllT2 P l → TTOK P (tget2 l)
  | [], _ => fun t i h => by simp [tget2] at h
  | x :: r, hl => fun t i h => by
    simp only [tget2] at h
    split at h
    · rename_i j hj; cases h; exact tget_ok x hl.1 t _ hj
    · exact tget2_ok r hl.2 t i h
def tl0 : List (Nat × TI) := [
(1, ⟨.other, 1, 8, [.nilf], none⟩),
(2, ⟨.int .i64, 1, 8, [.int .i64 0], some (.int .i64)⟩),
(3, ⟨.int .i64, 1, 8, [.int .i64 0], some (.int .i64)⟩),
(4, ⟨.bool, 1, 1, [.bool false], some .bool⟩),
(5, ⟨.int .u8, 1, 1, [.int .u8 0], some (.int .u8)⟩),
(6, ⟨.int .u8, 1, 1, [.int .u8 0], some (.int .u8)⟩),
(7, ⟨.struct [(0, 2), (1, 3), (2, 4), (3, 6)], 4, 24, [.int .i64 0, .int .i64 0, .bool false, .int .u8 0], none⟩),
(8, ⟨.struct [(0, 2), (1, 3), (2, 4), (3, 6)], 4, 24, [.int .i64 0, .int .i64 0, .bool false, .int .u8 0], none⟩),
(9, ⟨.str, 1, 16, [.str []], some .str⟩),
(10, ⟨.str, 1, 16, [.str []], some .str⟩),
(11, ⟨.str, 1, 16, [.str []], some .str⟩),
(12, ⟨.int .u64, 1, 8, [.int .u64 0], some (.int .u64)⟩),
(13, ⟨.struct [(0, 9), (1, 12)], 2, 24, [.str [], .int .u64 0], none⟩),
(14, ⟨.struct [(0, 9), (1, 12)], 2, 24, [.str [], .int .u64 0], none⟩),
(15, ⟨.ptr 153, 1, 8, [.nilp], none⟩),
(16, ⟨.ptr 156, 1, 8, [.nilp], none⟩),
(17, ⟨.ptr 166, 1, 8, [.nilp], none⟩),
(18, ⟨.struct [(0, 17)], 1, 8, [.nilp], none⟩),
(19, ⟨.struct [(0, 17)], 1, 8, [.nilp], none⟩),
(20, ⟨.other, 1, 16, [.nili], none⟩),
(21, ⟨.int .i32, 1, 4, [.int .i32 0], some (.int .i32)⟩),
(22, ⟨.slc 5, 1, 24, [.nils], none⟩),
(23, ⟨.other, 1, 8, [.nilf], none⟩),
(24, ⟨.slc 4, 1, 24, [.nils], none⟩)
]
theorem tlOk0 : AllT Try.prog tl0 := ⟨ti1, ti2, ti3, ti4, ti5, ti6, ti7, ti8, ti9, ti10, ti11, ti12, ti13, ti14, ti15, ti16, ti17, ti18, ti19, ti20, ti21, ti22, ti23, ti24, trivial⟩
def tl1 : List (Nat × TI) := [
(25, ⟨.other, 1, 8, [.nilf], none⟩),
(26, ⟨.slc 2, 1, 24, [.nils], none⟩),
(28, ⟨.other, 1, 8, [.nilf], none⟩),
(30, ⟨.other, 1, 8, [.nilf], none⟩),
(31, ⟨.flt .f32, 1, 4, [.flt .f32 0], some (.flt .f32)⟩),
(32, ⟨.struct [(0, 31), (1, 31), (2, 31), (3, 31)], 4, 16, [.flt .f32 0, .flt .f32 0, .flt .f32 0, .flt .f32 0], none⟩),
(33, ⟨.struct [(0, 31), (1, 31), (2, 31), (3, 31)], 4, 16, [.flt .f32 0, .flt .f32 0, .flt .f32 0, .flt .f32 0], none⟩),
(34, ⟨.other, 1, 8, [.nilf], none⟩),
(35, ⟨.struct [(0, 31), (1, 31), (2, 31), (3, 31), (4, 31), (5, 31)], 6, 24, [.flt .f32 0, .flt .f32 0, .flt .f32 0, .flt .f32 0, .flt .f32 0, .flt .f32 0], none⟩),
(36, ⟨.struct [(0, 31), (1, 31), (2, 31), (3, 31), (4, 31), (5, 31)], 6, 24, [.flt .f32 0, .flt .f32 0, .flt .f32 0, .flt .f32 0, .flt .f32 0, .flt .f32 0], none⟩),
(37, ⟨.other, 1, 8, [.nilf], none⟩),
(38, ⟨.slc 44, 1, 24, [.nils], none⟩),
(40, ⟨.other, 1, 8, [.nilf], none⟩),
(42, ⟨.other, 1, 8, [.nilf], none⟩),
(43, ⟨.struct [(0, 31), (1, 31), (2, 31)], 3, 12, [.flt .f32 0, .flt .f32 0, .flt .f32 0], none⟩),
(44, ⟨.struct [(0, 31), (1, 31), (2, 31)], 3, 12, [.flt .f32 0, .flt .f32 0, .flt .f32 0], some .mark⟩),
(45, ⟨.other, 1, 8, [.nilf], none⟩),
(47, ⟨.other, 1, 8, [.nilf], none⟩),
(48, ⟨.struct [(0, 31), (1, 31), (2, 31)], 3, 12, [.flt .f32 0, .flt .f32 0, .flt .f32 0], none⟩),
(49, ⟨.struct [(0, 31), (1, 31), (2, 31)], 3, 12, [.flt .f32 0, .flt .f32 0, .flt .f32 0], some .vec⟩),
(51, ⟨.other, 1, 8, [.nilf], none⟩),
(53, ⟨.other, 1, 8, [.nilf], none⟩),
(54, ⟨.other, 1, 8, [.nilf], none⟩),
(56, ⟨.other, 1, 8, [.nilf], none⟩)
]
theorem tlOk1 : AllT Try.prog tl1 := ⟨ti25, ti26, ti28, ti30, ti31, ti32, ti33, ti34, ti35, ti36, ti37, ti38, ti40, ti42, ti43, ti44, ti45, ti47, ti48, ti49, ti51, ti53, ti54, ti56, trivial⟩
def tl2 : List (Nat × TI) := [
(58, ⟨.other, 1, 8, [.nilf], none⟩),
(59, ⟨.other, 1, 8, [.nilf], none⟩),
(60, ⟨.other, 1, 8, [.nilf], none⟩),
(61, ⟨.slc 72, 1, 24, [.nils], none⟩),
(62, ⟨.other, 1, 8, [.nilf], none⟩),
(63, ⟨.slc 49, 1, 24, [.nils], none⟩),
(65, ⟨.other, 1, 8, [.nilf], none⟩),
(67, ⟨.other, 1, 8, [.nilf], none⟩),
(68, ⟨.other, 1, 8, [.nilf], none⟩),
(69, ⟨.other, 1, 8, [.nilf], none⟩),
(70, ⟨.other, 1, 8, [.nilf], none⟩),
(71, ⟨.struct [(0, 49), (3, 49), (6, 31)], 7, 28, [.flt .f32 0, .flt .f32 0, .flt .f32 0, .flt .f32 0, .flt .f32 0, .flt .f32 0, .flt .f32 0], none⟩),
(72, ⟨.struct [(0, 49), (3, 49), (6, 31)], 7, 28, [.flt .f32 0, .flt .f32 0, .flt .f32 0, .flt .f32 0, .flt .f32 0, .flt .f32 0, .flt .f32 0], some .body⟩),
(73, ⟨.flt .f64, 1, 8, [.flt .f64 0], some (.flt .f64)⟩),
(74, ⟨.other, 1, 8, [.nilf], none⟩),
(75, ⟨.other, 1, 8, [.nilf], none⟩),
(76, ⟨.other, 1, 8, [.nilf], none⟩),
(78, ⟨.other, 1, 8, [.nilf], none⟩),
(79, ⟨.other, 1, 8, [.nilf], none⟩),
(80, ⟨.other, 1, 8, [.nilf], none⟩),
(81, ⟨.other, 1, 8, [.nilf], none⟩),
(82, ⟨.other, 1, 8, [.nilf], none⟩),
(83, ⟨.ptr 120, 1, 8, [.nilp], none⟩),
(84, ⟨.other, 1, 8, [.nilf], none⟩)
]
theorem tlOk2 : AllT Try.prog tl2 := ⟨ti58, ti59, ti60, ti61, ti62, ti63, ti65, ti67, ti68, ti69, ti70, ti71, ti72, ti73, ti74, ti75, ti76, ti78, ti79, ti80, ti81, ti82, ti83, ti84, trivial⟩
def tl3 : List (Nat × TI) := [
(85, ⟨.other, 1, 8, [.nilf], none⟩),
(86, ⟨.other, 1, 8, [.nilf], none⟩),
(87, ⟨.other, 1, 8, [.nilf], none⟩),
(88, ⟨.other, 1, 8, [.nilf], none⟩),
(89, ⟨.other, 1, 8, [.nilf], none⟩),
(90, ⟨.other, 1, 8, [.nilf], none⟩),
(91, ⟨.other, 1, 8, [.nilf], none⟩),
(92, ⟨.other, 1, 8, [.nilf], none⟩),
(93, ⟨.other, 1, 8, [.nilf], none⟩),
(94, ⟨.other, 1, 8, [.nilf], none⟩),
(96, ⟨.other, 1, 8, [.nilf], none⟩),
(97, ⟨.other, 1, 8, [.nilf], none⟩),
(98, ⟨.other, 1, 8, [.nilf], none⟩),
(99, ⟨.other, 1, 8, [.nilf], none⟩),
(100, ⟨.other, 1, 8, [.nilf], none⟩),
(101, ⟨.slc 31, 1, 24, [.nils], none⟩),
(102, ⟨.other, 1, 8, [.nilf], none⟩),
(103, ⟨.other, 1, 8, [.nilf], none⟩),
(104, ⟨.other, 1, 8, [.nilf], none⟩),
(105, ⟨.other, 1, 8, [.nilf], none⟩),
(106, ⟨.other, 1, 8, [.nilf], none⟩),
(107, ⟨.other, 1, 8, [.nilf], none⟩),
(108, ⟨.other, 1, 8, [.nilf], none⟩),
(109, ⟨.other, 1, 8, [.nilf], none⟩)
]
theorem tlOk3 : AllT Try.prog tl3 := ⟨ti85, ti86, ti87, ti88, ti89, ti90, ti91, ti92, ti93, ti94, ti96, ti97, ti98, ti99, ti100, ti101, ti102, ti103, ti104, ti105, ti106, ti107, ti108, ti109, trivial⟩
def tl4 : List (Nat × TI) := [
(110, ⟨.other, 1, 8, [.nilf], none⟩),
(111, ⟨.other, 1, 8, [.nilf], none⟩),
(112, ⟨.other, 1, 8, [.nilf], none⟩),
(113, ⟨.other, 1, 8, [.nilf], none⟩),
(114, ⟨.other, 1, 8, [.nilf], none⟩),
(115, ⟨.other, 1, 8, [.nilf], none⟩),
(116, ⟨.other, 1, 8, [.nilf], none⟩),
(117, ⟨.other, 1, 8, [.nilf], none⟩),
(118, ⟨.int .u64, 1, 8, [.int .u64 0], some (.int .u64)⟩),
(119, ⟨.struct [(0, 22), (1, 3), (2, 118)], 3, 40, [.nils, .int .i64 0, .int .u64 0], none⟩),
(120, ⟨.struct [(0, 22), (1, 3), (2, 118)], 3, 40, [.nils, .int .i64 0, .int .u64 0], none⟩),
(121, ⟨.other, 1, 8, [.nilf], none⟩),
(122, ⟨.other, 1, 8, [.nilf], none⟩),
(123, ⟨.other, 1, 8, [.nilf], none⟩),
(124, ⟨.other, 1, 8, [.nilf], none⟩),
(125, ⟨.other, 1, 8, [.nilf], none⟩),
(127, ⟨.other, 1, 8, [.nilf], none⟩),
(128, ⟨.other, 1, 8, [.nilf], none⟩),
(129, ⟨.other, 1, 8, [.nilf], none⟩),
(130, ⟨.other, 1, 8, [.nilf], none⟩),
(131, ⟨.other, 1, 8, [.nilf], none⟩),
(132, ⟨.other, 1, 8, [.nilf], none⟩),
(133, ⟨.other, 1, 8, [.nilf], none⟩),
(134, ⟨.other, 1, 8, [.nilf], none⟩)
]
theorem tlOk4 : AllT Try.prog tl4 := ⟨ti110, ti111, ti112, ti113, ti114, ti115, ti116, ti117, ti118, ti119, ti120, ti121, ti122, ti123, ti124, ti125, ti127, ti128, ti129, ti130, ti131, ti132, ti133, ti134, trivial⟩
def tl5 : List (Nat × TI) := [
(135, ⟨.other, 1, 8, [.nilf], none⟩),
(136, ⟨.other, 1, 8, [.nilf], none⟩),
(137, ⟨.other, 1, 8, [.nilf], none⟩),
(138, ⟨.slc 61, 1, 24, [.nils], none⟩),
(139, ⟨.other, 1, 8, [.nilf], none⟩),
(140, ⟨.int .u64, 1, 8, [.int .u64 0], some (.int .u64)⟩),
(141, ⟨.other, 1, 8, [.nilf], none⟩),
(142, ⟨.other, 1, 8, [.nilf], none⟩),
(143, ⟨.other, 1, 8, [.nilf], none⟩),
(144, ⟨.other, 1, 8, [.nilf], none⟩),
(145, ⟨.other, 1, 8, [.nilf], none⟩),
(146, ⟨.other, 1, 8, [.nilf], none⟩),
(147, ⟨.other, 1, 8, [.nilf], none⟩),
(149, ⟨.other, 1, 8, [.nilf], none⟩),
(150, ⟨.other, 1, 8, [.nilf], none⟩),
(151, ⟨.other, 1, 8, [.nilf], none⟩),
(152, ⟨.struct [(0, 17), (1, 17), (2, 17), (3, 9)], 4, 40, [.nilp, .nilp, .nilp, .str []], none⟩),
(153, ⟨.struct [(0, 17), (1, 17), (2, 17), (3, 9)], 4, 40, [.nilp, .nilp, .nilp, .str []], none⟩),
(154, ⟨.arr 0 16, 0, 0, [], none⟩),
(155, ⟨.struct [(0, 154)], 0, 0, [], none⟩),
(156, ⟨.struct [(0, 154)], 0, 0, [], none⟩),
(157, ⟨.other, 1, 8, [.nilf], none⟩),
(158, ⟨.int .u32, 1, 4, [.int .u32 0], some (.int .u32)⟩),
(159, ⟨.int .u8, 1, 1, [.int .u8 0], some (.int .u8)⟩)
]
theorem tlOk5 : AllT Try.prog tl5 := ⟨ti135, ti136, ti137, ti138, ti139, ti140, ti141, ti142, ti143, ti144, ti145, ti146, ti147, ti149, ti150, ti151, ti152, ti153, ti154, ti155, ti156, ti157, ti158, ti159, trivial⟩
def tl6 : List (Nat × TI) := [
(160, ⟨.int .u8, 1, 1, [.int .u8 0], some (.int .u8)⟩),
(161, ⟨.other, 1, 8, [.nilf], none⟩),
(162, ⟨.ptr 5, 1, 8, [.nilp], none⟩),
(163, ⟨.int .i32, 1, 4, [.int .i32 0], some (.int .i32)⟩),
(164, ⟨.int .i32, 1, 4, [.int .i32 0], some (.int .i32)⟩),
(165, ⟨.struct [(0, 12), (1, 12), (2, 158), (3, 159), (4, 5), (5, 5), (6, 160), (7, 161), (8, 162), (9, 163), (10, 164)], 11, 48, [.int .u64 0, .int .u64 0, .int .u32 0, .int .u8 0, .int .u8 0, .int .u8 0, .int .u8 0, .nilf, .nilp, .int .i32 0, .int .i32 0], none⟩),
(166, ⟨.struct [(0, 12), (1, 12), (2, 158), (3, 159), (4, 5), (5, 5), (6, 160), (7, 161), (8, 162), (9, 163), (10, 164)], 11, 48, [.int .u64 0, .int .u64 0, .int .u32 0, .int .u8 0, .int .u8 0, .int .u8 0, .int .u8 0, .nilf, .nilp, .int .i32 0, .int .i32 0], none⟩),
(167, ⟨.other, 1, 8, [.nilp], none⟩)
]
theorem tlOk6 : AllT Try.prog tl6 := ⟨ti160, ti161, ti162, ti163, ti164, ti165, ti166, ti167, trivial⟩
def tab : TT := tget2 [tl0, tl1, tl2, tl3, tl4, tl5, tl6]
theorem tab_ok : TTOK Try.prog tab := tget2_ok _ ⟨tlOk0, tlOk1, tlOk2, tlOk3, tlOk4, tlOk5, tlOk6, trivial⟩
end Go.Proofs.Ytkmcgfjhjfiomaa
