/- THE TYPES, BY A PROGRAM: what the evaluator takes from the table of types, and that it stands there. -/
import Derived.Test.YtodhhjcgjkfmpaaEngQ
import Derived.Test.YtodhhjcgjkfmpaaProg
namespace Go.Proofs.Ytodhhjcgjkfmpaa
/-- A string's bytes, as integers. -/
def u8i (l : List UInt8) : List Int := u8s l
theorem z_int {k : IntKind} : ZSim (.int k 0) (.int k 0) := fun c => by simp only [VSim]
theorem z_f32 : ZSim (.flt .f32 0) (.float .f32 0) := fun c => by simp only [VSim]; exact ⟨0, rfl, by decide +kernel⟩
theorem z_f64 : ZSim (.flt .f64 0) (.float .f64 0) := fun c => by simp only [VSim]; exact ⟨0, rfl, by decide +kernel⟩
theorem z_c32 : ZSim (.cplx .f32 0 0) (.complex .f32 0 0) := fun c => by simp only [VSim]; exact ⟨0, 0, rfl, by decide +kernel, by decide +kernel⟩
theorem z_c64 : ZSim (.cplx .f64 0 0) (.complex .f64 0 0) := fun c => by simp only [VSim]; exact ⟨0, 0, rfl, by decide +kernel, by decide +kernel⟩
theorem z_bool : ZSim (.bool false) (.bool false) := fun c => by simp only [VSim]
theorem z_str {s : ByteArray} (h : s.data.toList = []) : ZSim (.str []) (.string s) := fun c => by simp only [VSim]; exact ⟨s, rfl, h⟩
theorem z_nilp : ZSim .nilp (.pointer none) := fun c => by simp only [VSim]
theorem z_nils : ZSim .nils (.slice none 0 0) := fun c => by simp only [VSim]
theorem z_nilf : ZSim .nilf .nilFunc := fun c => by simp only [VSim]
theorem z_nili : ZSim .nili .nilIface := fun c => by simp only [VSim]
theorem ti1 : TIOK Try.prog 1 ⟨.other, 1, 8, [.nilf], none⟩ := ⟨⟨_, Try.underlying1, (fun f h => by cases h), (fun n e h => by cases h)⟩, Try.t1, _, by kernel_rfl, rfl, rfl, rfl, ⟨z_nilf, trivial⟩⟩
theorem ti2 : TIOK Try.prog 2 ⟨.int .i64, 1, 8, [.int .i64 0], some (.int .i64)⟩ := ⟨Try.underlying2, Try.t2, _, by kernel_rfl, rfl, rfl, rfl, ⟨z_int, trivial⟩⟩
theorem ti3 : TIOK Try.prog 3 ⟨.int .i64, 1, 8, [.int .i64 0], some (.int .i64)⟩ := ⟨Try.underlying3, Try.t3, _, by kernel_rfl, rfl, rfl, rfl, ⟨z_int, trivial⟩⟩
theorem ti4 : TIOK Try.prog 4 ⟨.bool, 1, 1, [.bool false], some .bool⟩ := ⟨Try.underlying4, Try.t4, _, by kernel_rfl, rfl, rfl, rfl, ⟨z_bool, trivial⟩⟩
theorem ti5 : TIOK Try.prog 5 ⟨.int .u8, 1, 1, [.int .u8 0], some (.int .u8)⟩ := ⟨Try.underlying5, Try.t5, _, by kernel_rfl, rfl, rfl, rfl, ⟨z_int, trivial⟩⟩
theorem ti6 : TIOK Try.prog 6 ⟨.int .u8, 1, 1, [.int .u8 0], some (.int .u8)⟩ := ⟨Try.underlying6, Try.t6, _, by kernel_rfl, rfl, rfl, rfl, ⟨z_int, trivial⟩⟩
theorem ti7 : TIOK Try.prog 7 ⟨.struct [(0, 2), (1, 3), (2, 4), (3, 6)], 4, 24, [.int .i64 0, .int .i64 0, .bool false, .int .u8 0], none⟩ := ⟨⟨_, Try.underlying7, rfl⟩, Try.t7, _, by kernel_rfl, rfl, rfl, rfl, ⟨z_int, z_int, z_bool, z_int, trivial⟩⟩
theorem ti8 : TIOK Try.prog 8 ⟨.struct [(0, 2), (1, 3), (2, 4), (3, 6)], 4, 24, [.int .i64 0, .int .i64 0, .bool false, .int .u8 0], none⟩ := ⟨⟨_, Try.underlying8, rfl⟩, Try.t8, _, by kernel_rfl, rfl, rfl, rfl, ⟨z_int, z_int, z_bool, z_int, trivial⟩⟩
theorem ti9 : TIOK Try.prog 9 ⟨.str, 1, 16, [.str []], some .str⟩ := ⟨Try.underlying9, Try.t9, _, by kernel_rfl, rfl, rfl, rfl, ⟨z_str rfl, trivial⟩⟩
theorem ti10 : TIOK Try.prog 10 ⟨.str, 1, 16, [.str []], some .str⟩ := ⟨Try.underlying10, Try.t10, _, by kernel_rfl, rfl, rfl, rfl, ⟨z_str rfl, trivial⟩⟩
theorem ti11 : TIOK Try.prog 11 ⟨.str, 1, 16, [.str []], some .str⟩ := ⟨Try.underlying11, Try.t11, _, by kernel_rfl, rfl, rfl, rfl, ⟨z_str rfl, trivial⟩⟩
theorem ti12 : TIOK Try.prog 12 ⟨.int .u64, 1, 8, [.int .u64 0], some (.int .u64)⟩ := ⟨Try.underlying12, Try.t12, _, by kernel_rfl, rfl, rfl, rfl, ⟨z_int, trivial⟩⟩
theorem ti13 : TIOK Try.prog 13 ⟨.struct [(0, 9), (1, 12)], 2, 24, [.str [], .int .u64 0], none⟩ := ⟨⟨_, Try.underlying13, rfl⟩, Try.t13, _, by kernel_rfl, rfl, rfl, rfl, ⟨z_str rfl, z_int, trivial⟩⟩
theorem ti14 : TIOK Try.prog 14 ⟨.struct [(0, 9), (1, 12)], 2, 24, [.str [], .int .u64 0], none⟩ := ⟨⟨_, Try.underlying14, rfl⟩, Try.t14, _, by kernel_rfl, rfl, rfl, rfl, ⟨z_str rfl, z_int, trivial⟩⟩
theorem ti15 : TIOK Try.prog 15 ⟨.ptr 227, 1, 8, [.nilp], none⟩ := ⟨Try.underlying15, Try.t15, _, by kernel_rfl, rfl, rfl, rfl, ⟨z_nilp, trivial⟩⟩
theorem ti16 : TIOK Try.prog 16 ⟨.ptr 230, 1, 8, [.nilp], none⟩ := ⟨Try.underlying16, Try.t16, _, by kernel_rfl, rfl, rfl, rfl, ⟨z_nilp, trivial⟩⟩
theorem ti17 : TIOK Try.prog 17 ⟨.ptr 239, 1, 8, [.nilp], none⟩ := ⟨Try.underlying17, Try.t17, _, by kernel_rfl, rfl, rfl, rfl, ⟨z_nilp, trivial⟩⟩
theorem ti18 : TIOK Try.prog 18 ⟨.struct [(0, 17)], 1, 8, [.nilp], none⟩ := ⟨⟨_, Try.underlying18, rfl⟩, Try.t18, _, by kernel_rfl, rfl, rfl, rfl, ⟨z_nilp, trivial⟩⟩
theorem ti19 : TIOK Try.prog 19 ⟨.struct [(0, 17)], 1, 8, [.nilp], none⟩ := ⟨⟨_, Try.underlying19, rfl⟩, Try.t19, _, by kernel_rfl, rfl, rfl, rfl, ⟨z_nilp, trivial⟩⟩
theorem ti20 : TIOK Try.prog 20 ⟨.other, 1, 16, [.nili], none⟩ := ⟨⟨_, Try.underlying20, (fun f h => by cases h), (fun n e h => by cases h)⟩, Try.t20, _, by kernel_rfl, rfl, rfl, rfl, ⟨z_nili, trivial⟩⟩
theorem ti21 : TIOK Try.prog 21 ⟨.int .i32, 1, 4, [.int .i32 0], some (.int .i32)⟩ := ⟨Try.underlying21, Try.t21, _, by kernel_rfl, rfl, rfl, rfl, ⟨z_int, trivial⟩⟩
theorem ti22 : TIOK Try.prog 22 ⟨.slc 85, 1, 24, [.nils], none⟩ := ⟨Try.underlying22, Try.t22, _, by kernel_rfl, rfl, rfl, rfl, ⟨z_nils, trivial⟩⟩
theorem ti24 : TIOK Try.prog 24 ⟨.other, 1, 8, [.nilf], none⟩ := ⟨⟨_, Try.underlying24, (fun f h => by cases h), (fun n e h => by cases h)⟩, Try.t24, _, by kernel_rfl, rfl, rfl, rfl, ⟨z_nilf, trivial⟩⟩
theorem ti25 : TIOK Try.prog 25 ⟨.other, 1, 8, [.nilf], none⟩ := ⟨⟨_, Try.underlying25, (fun f h => by cases h), (fun n e h => by cases h)⟩, Try.t25, _, by kernel_rfl, rfl, rfl, rfl, ⟨z_nilf, trivial⟩⟩
theorem ti26 : TIOK Try.prog 26 ⟨.other, 1, 8, [.nilf], none⟩ := ⟨⟨_, Try.underlying26, (fun f h => by cases h), (fun n e h => by cases h)⟩, Try.t26, _, by kernel_rfl, rfl, rfl, rfl, ⟨z_nilf, trivial⟩⟩
theorem ti27 : TIOK Try.prog 27 ⟨.other, 1, 8, [.nilf], none⟩ := ⟨⟨_, Try.underlying27, (fun f h => by cases h), (fun n e h => by cases h)⟩, Try.t27, _, by kernel_rfl, rfl, rfl, rfl, ⟨z_nilf, trivial⟩⟩
theorem ti28 : TIOK Try.prog 28 ⟨.flt .f32, 1, 4, [.flt .f32 0], some (.flt .f32)⟩ := ⟨Try.underlying28, Try.t28, _, by kernel_rfl, rfl, rfl, rfl, ⟨z_f32, trivial⟩⟩
theorem ti29 : TIOK Try.prog 29 ⟨.struct [(0, 28), (1, 28), (2, 28), (3, 28), (4, 28), (5, 28)], 6, 24, [.flt .f32 0, .flt .f32 0, .flt .f32 0, .flt .f32 0, .flt .f32 0, .flt .f32 0], none⟩ := ⟨⟨_, Try.underlying29, rfl⟩, Try.t29, _, by kernel_rfl, rfl, rfl, rfl, ⟨z_f32, z_f32, z_f32, z_f32, z_f32, z_f32, trivial⟩⟩
theorem ti30 : TIOK Try.prog 30 ⟨.struct [(0, 28), (1, 28), (2, 28), (3, 28), (4, 28), (5, 28)], 6, 24, [.flt .f32 0, .flt .f32 0, .flt .f32 0, .flt .f32 0, .flt .f32 0, .flt .f32 0], none⟩ := ⟨⟨_, Try.underlying30, rfl⟩, Try.t30, _, by kernel_rfl, rfl, rfl, rfl, ⟨z_f32, z_f32, z_f32, z_f32, z_f32, z_f32, trivial⟩⟩
theorem ti32 : TIOK Try.prog 32 ⟨.other, 1, 8, [.nilf], none⟩ := ⟨⟨_, Try.underlying32, (fun f h => by cases h), (fun n e h => by cases h)⟩, Try.t32, _, by kernel_rfl, rfl, rfl, rfl, ⟨z_nilf, trivial⟩⟩
theorem ti33 : TIOK Try.prog 33 ⟨.struct [(0, 28), (1, 28), (2, 28), (3, 28), (4, 28), (5, 28)], 6, 24, [.flt .f32 0, .flt .f32 0, .flt .f32 0, .flt .f32 0, .flt .f32 0, .flt .f32 0], none⟩ := ⟨⟨_, Try.underlying33, rfl⟩, Try.t33, _, by kernel_rfl, rfl, rfl, rfl, ⟨z_f32, z_f32, z_f32, z_f32, z_f32, z_f32, trivial⟩⟩
theorem ti34 : TIOK Try.prog 34 ⟨.other, 1, 8, [.nilf], none⟩ := ⟨⟨_, Try.underlying34, (fun f h => by cases h), (fun n e h => by cases h)⟩, Try.t34, _, by kernel_rfl, rfl, rfl, rfl, ⟨z_nilf, trivial⟩⟩
theorem ti35 : TIOK Try.prog 35 ⟨.other, 1, 8, [.nilf], none⟩ := ⟨⟨_, Try.underlying35, (fun f h => by cases h), (fun n e h => by cases h)⟩, Try.t35, _, by kernel_rfl, rfl, rfl, rfl, ⟨z_nilf, trivial⟩⟩
theorem ti36 : TIOK Try.prog 36 ⟨.flt .f64, 1, 8, [.flt .f64 0], some (.flt .f64)⟩ := ⟨Try.underlying36, Try.t36, _, by kernel_rfl, rfl, rfl, rfl, ⟨z_f64, trivial⟩⟩
theorem ti37 : TIOK Try.prog 37 ⟨.other, 1, 8, [.nilf], none⟩ := ⟨⟨_, Try.underlying37, (fun f h => by cases h), (fun n e h => by cases h)⟩, Try.t37, _, by kernel_rfl, rfl, rfl, rfl, ⟨z_nilf, trivial⟩⟩
theorem ti38 : TIOK Try.prog 38 ⟨.struct [(0, 28), (1, 28), (2, 28), (3, 28)], 4, 16, [.flt .f32 0, .flt .f32 0, .flt .f32 0, .flt .f32 0], none⟩ := ⟨⟨_, Try.underlying38, rfl⟩, Try.t38, _, by kernel_rfl, rfl, rfl, rfl, ⟨z_f32, z_f32, z_f32, z_f32, trivial⟩⟩
theorem ti39 : TIOK Try.prog 39 ⟨.struct [(0, 28), (1, 28), (2, 28), (3, 28)], 4, 16, [.flt .f32 0, .flt .f32 0, .flt .f32 0, .flt .f32 0], none⟩ := ⟨⟨_, Try.underlying39, rfl⟩, Try.t39, _, by kernel_rfl, rfl, rfl, rfl, ⟨z_f32, z_f32, z_f32, z_f32, trivial⟩⟩
theorem ti40 : TIOK Try.prog 40 ⟨.struct [(0, 28), (1, 28), (2, 28)], 3, 12, [.flt .f32 0, .flt .f32 0, .flt .f32 0], none⟩ := ⟨⟨_, Try.underlying40, rfl⟩, Try.t40, _, by kernel_rfl, rfl, rfl, rfl, ⟨z_f32, z_f32, z_f32, trivial⟩⟩
theorem ti41 : TIOK Try.prog 41 ⟨.struct [(0, 28), (1, 28), (2, 28)], 3, 12, [.flt .f32 0, .flt .f32 0, .flt .f32 0], some .vec⟩ := ⟨⟨_, Try.underlying41, rfl⟩, Try.t41, _, by kernel_rfl, rfl, rfl, rfl, ⟨z_f32, z_f32, z_f32, trivial⟩⟩
theorem ti42 : TIOK Try.prog 42 ⟨.struct [(0, 28), (1, 28), (2, 28)], 3, 12, [.flt .f32 0, .flt .f32 0, .flt .f32 0], none⟩ := ⟨⟨_, Try.underlying42, rfl⟩, Try.t42, _, by kernel_rfl, rfl, rfl, rfl, ⟨z_f32, z_f32, z_f32, trivial⟩⟩
theorem ti43 : TIOK Try.prog 43 ⟨.struct [(0, 28), (1, 28), (2, 28)], 3, 12, [.flt .f32 0, .flt .f32 0, .flt .f32 0], some .mark⟩ := ⟨⟨_, Try.underlying43, rfl⟩, Try.t43, _, by kernel_rfl, rfl, rfl, rfl, ⟨z_f32, z_f32, z_f32, trivial⟩⟩
theorem ti45 : TIOK Try.prog 45 ⟨.other, 1, 8, [.nilf], none⟩ := ⟨⟨_, Try.underlying45, (fun f h => by cases h), (fun n e h => by cases h)⟩, Try.t45, _, by kernel_rfl, rfl, rfl, rfl, ⟨z_nilf, trivial⟩⟩
theorem ti46 : TIOK Try.prog 46 ⟨.struct [(0, 28), (1, 28), (2, 28), (3, 28)], 4, 16, [.flt .f32 0, .flt .f32 0, .flt .f32 0, .flt .f32 0], none⟩ := ⟨⟨_, Try.underlying46, rfl⟩, Try.t46, _, by kernel_rfl, rfl, rfl, rfl, ⟨z_f32, z_f32, z_f32, z_f32, trivial⟩⟩
theorem ti47 : TIOK Try.prog 47 ⟨.other, 1, 8, [.nilf], none⟩ := ⟨⟨_, Try.underlying47, (fun f h => by cases h), (fun n e h => by cases h)⟩, Try.t47, _, by kernel_rfl, rfl, rfl, rfl, ⟨z_nilf, trivial⟩⟩
theorem ti48 : TIOK Try.prog 48 ⟨.struct [(0, 28), (1, 28), (2, 28)], 3, 12, [.flt .f32 0, .flt .f32 0, .flt .f32 0], some .vec⟩ := ⟨⟨_, Try.underlying48, rfl⟩, Try.t48, _, by kernel_rfl, rfl, rfl, rfl, ⟨z_f32, z_f32, z_f32, trivial⟩⟩
theorem ti49 : TIOK Try.prog 49 ⟨.other, 1, 8, [.nilf], none⟩ := ⟨⟨_, Try.underlying49, (fun f h => by cases h), (fun n e h => by cases h)⟩, Try.t49, _, by kernel_rfl, rfl, rfl, rfl, ⟨z_nilf, trivial⟩⟩
theorem ti50 : TIOK Try.prog 50 ⟨.other, 1, 8, [.nilf], none⟩ := ⟨⟨_, Try.underlying50, (fun f h => by cases h), (fun n e h => by cases h)⟩, Try.t50, _, by kernel_rfl, rfl, rfl, rfl, ⟨z_nilf, trivial⟩⟩
theorem ti51 : TIOK Try.prog 51 ⟨.other, 1, 8, [.nilf], none⟩ := ⟨⟨_, Try.underlying51, (fun f h => by cases h), (fun n e h => by cases h)⟩, Try.t51, _, by kernel_rfl, rfl, rfl, rfl, ⟨z_nilf, trivial⟩⟩
theorem ti52 : TIOK Try.prog 52 ⟨.slc 132, 1, 24, [.nils], none⟩ := ⟨Try.underlying52, Try.t52, _, by kernel_rfl, rfl, rfl, rfl, ⟨z_nils, trivial⟩⟩
theorem ti54 : TIOK Try.prog 54 ⟨.other, 1, 8, [.nilf], none⟩ := ⟨⟨_, Try.underlying54, (fun f h => by cases h), (fun n e h => by cases h)⟩, Try.t54, _, by kernel_rfl, rfl, rfl, rfl, ⟨z_nilf, trivial⟩⟩
theorem ti55 : TIOK Try.prog 55 ⟨.other, 1, 8, [.nilf], none⟩ := ⟨⟨_, Try.underlying55, (fun f h => by cases h), (fun n e h => by cases h)⟩, Try.t55, _, by kernel_rfl, rfl, rfl, rfl, ⟨z_nilf, trivial⟩⟩
theorem ti56 : TIOK Try.prog 56 ⟨.other, 1, 8, [.nilf], none⟩ := ⟨⟨_, Try.underlying56, (fun f h => by cases h), (fun n e h => by cases h)⟩, Try.t56, _, by kernel_rfl, rfl, rfl, rfl, ⟨z_nilf, trivial⟩⟩
theorem ti57 : TIOK Try.prog 57 ⟨.other, 1, 8, [.nilf], none⟩ := ⟨⟨_, Try.underlying57, (fun f h => by cases h), (fun n e h => by cases h)⟩, Try.t57, _, by kernel_rfl, rfl, rfl, rfl, ⟨z_nilf, trivial⟩⟩
theorem ti58 : TIOK Try.prog 58 ⟨.slc 4, 1, 24, [.nils], none⟩ := ⟨Try.underlying58, Try.t58, _, by kernel_rfl, rfl, rfl, rfl, ⟨z_nils, trivial⟩⟩
theorem ti60 : TIOK Try.prog 60 ⟨.other, 1, 8, [.nilf], none⟩ := ⟨⟨_, Try.underlying60, (fun f h => by cases h), (fun n e h => by cases h)⟩, Try.t60, _, by kernel_rfl, rfl, rfl, rfl, ⟨z_nilf, trivial⟩⟩
theorem ti61 : TIOK Try.prog 61 ⟨.other, 1, 8, [.nilf], none⟩ := ⟨⟨_, Try.underlying61, (fun f h => by cases h), (fun n e h => by cases h)⟩, Try.t61, _, by kernel_rfl, rfl, rfl, rfl, ⟨z_nilf, trivial⟩⟩
theorem ti62 : TIOK Try.prog 62 ⟨.other, 1, 8, [.nilf], none⟩ := ⟨⟨_, Try.underlying62, (fun f h => by cases h), (fun n e h => by cases h)⟩, Try.t62, _, by kernel_rfl, rfl, rfl, rfl, ⟨z_nilf, trivial⟩⟩
theorem ti63 : TIOK Try.prog 63 ⟨.other, 1, 8, [.nilf], none⟩ := ⟨⟨_, Try.underlying63, (fun f h => by cases h), (fun n e h => by cases h)⟩, Try.t63, _, by kernel_rfl, rfl, rfl, rfl, ⟨z_nilf, trivial⟩⟩
theorem ti64 : TIOK Try.prog 64 ⟨.other, 1, 8, [.nilf], none⟩ := ⟨⟨_, Try.underlying64, (fun f h => by cases h), (fun n e h => by cases h)⟩, Try.t64, _, by kernel_rfl, rfl, rfl, rfl, ⟨z_nilf, trivial⟩⟩
theorem ti65 : TIOK Try.prog 65 ⟨.other, 1, 8, [.nilf], none⟩ := ⟨⟨_, Try.underlying65, (fun f h => by cases h), (fun n e h => by cases h)⟩, Try.t65, _, by kernel_rfl, rfl, rfl, rfl, ⟨z_nilf, trivial⟩⟩
theorem ti66 : TIOK Try.prog 66 ⟨.slc 143, 1, 24, [.nils], none⟩ := ⟨Try.underlying66, Try.t66, _, by kernel_rfl, rfl, rfl, rfl, ⟨z_nils, trivial⟩⟩
theorem ti67 : TIOK Try.prog 67 ⟨.other, 1, 8, [.nilf], none⟩ := ⟨⟨_, Try.underlying67, (fun f h => by cases h), (fun n e h => by cases h)⟩, Try.t67, _, by kernel_rfl, rfl, rfl, rfl, ⟨z_nilf, trivial⟩⟩
theorem ti68 : TIOK Try.prog 68 ⟨.other, 1, 8, [.nilf], none⟩ := ⟨⟨_, Try.underlying68, (fun f h => by cases h), (fun n e h => by cases h)⟩, Try.t68, _, by kernel_rfl, rfl, rfl, rfl, ⟨z_nilf, trivial⟩⟩
theorem ti69 : TIOK Try.prog 69 ⟨.other, 1, 8, [.nilf], none⟩ := ⟨⟨_, Try.underlying69, (fun f h => by cases h), (fun n e h => by cases h)⟩, Try.t69, _, by kernel_rfl, rfl, rfl, rfl, ⟨z_nilf, trivial⟩⟩
theorem ti70 : TIOK Try.prog 70 ⟨.other, 1, 8, [.nilf], none⟩ := ⟨⟨_, Try.underlying70, (fun f h => by cases h), (fun n e h => by cases h)⟩, Try.t70, _, by kernel_rfl, rfl, rfl, rfl, ⟨z_nilf, trivial⟩⟩
theorem ti71 : TIOK Try.prog 71 ⟨.other, 1, 8, [.nilf], none⟩ := ⟨⟨_, Try.underlying71, (fun f h => by cases h), (fun n e h => by cases h)⟩, Try.t71, _, by kernel_rfl, rfl, rfl, rfl, ⟨z_nilf, trivial⟩⟩
theorem ti72 : TIOK Try.prog 72 ⟨.other, 1, 8, [.nilf], none⟩ := ⟨⟨_, Try.underlying72, (fun f h => by cases h), (fun n e h => by cases h)⟩, Try.t72, _, by kernel_rfl, rfl, rfl, rfl, ⟨z_nilf, trivial⟩⟩
theorem ti74 : TIOK Try.prog 74 ⟨.other, 1, 8, [.nilf], none⟩ := ⟨⟨_, Try.underlying74, (fun f h => by cases h), (fun n e h => by cases h)⟩, Try.t74, _, by kernel_rfl, rfl, rfl, rfl, ⟨z_nilf, trivial⟩⟩
theorem ti76 : TIOK Try.prog 76 ⟨.other, 1, 8, [.nilf], none⟩ := ⟨⟨_, Try.underlying76, (fun f h => by cases h), (fun n e h => by cases h)⟩, Try.t76, _, by kernel_rfl, rfl, rfl, rfl, ⟨z_nilf, trivial⟩⟩
theorem ti77 : TIOK Try.prog 77 ⟨.other, 1, 8, [.nilf], none⟩ := ⟨⟨_, Try.underlying77, (fun f h => by cases h), (fun n e h => by cases h)⟩, Try.t77, _, by kernel_rfl, rfl, rfl, rfl, ⟨z_nilf, trivial⟩⟩
theorem ti78 : TIOK Try.prog 78 ⟨.slc 5, 1, 24, [.nils], none⟩ := ⟨Try.underlying78, Try.t78, _, by kernel_rfl, rfl, rfl, rfl, ⟨z_nils, trivial⟩⟩
theorem ti79 : TIOK Try.prog 79 ⟨.other, 1, 8, [.nilf], none⟩ := ⟨⟨_, Try.underlying79, (fun f h => by cases h), (fun n e h => by cases h)⟩, Try.t79, _, by kernel_rfl, rfl, rfl, rfl, ⟨z_nilf, trivial⟩⟩
theorem ti80 : TIOK Try.prog 80 ⟨.other, 1, 8, [.nilf], none⟩ := ⟨⟨_, Try.underlying80, (fun f h => by cases h), (fun n e h => by cases h)⟩, Try.t80, _, by kernel_rfl, rfl, rfl, rfl, ⟨z_nilf, trivial⟩⟩
theorem ti81 : TIOK Try.prog 81 ⟨.other, 1, 8, [.nilf], none⟩ := ⟨⟨_, Try.underlying81, (fun f h => by cases h), (fun n e h => by cases h)⟩, Try.t81, _, by kernel_rfl, rfl, rfl, rfl, ⟨z_nilf, trivial⟩⟩
theorem ti82 : TIOK Try.prog 82 ⟨.other, 1, 8, [.nilf], none⟩ := ⟨⟨_, Try.underlying82, (fun f h => by cases h), (fun n e h => by cases h)⟩, Try.t82, _, by kernel_rfl, rfl, rfl, rfl, ⟨z_nilf, trivial⟩⟩
theorem ti83 : TIOK Try.prog 83 ⟨.other, 1, 8, [.nilf], none⟩ := ⟨⟨_, Try.underlying83, (fun f h => by cases h), (fun n e h => by cases h)⟩, Try.t83, _, by kernel_rfl, rfl, rfl, rfl, ⟨z_nilf, trivial⟩⟩
theorem ti84 : TIOK Try.prog 84 ⟨.struct [(0, 9), (1, 28), (2, 33)], 8, 48, [.str [], .flt .f32 0, .flt .f32 0, .flt .f32 0, .flt .f32 0, .flt .f32 0, .flt .f32 0, .flt .f32 0], none⟩ := ⟨⟨_, Try.underlying84, rfl⟩, Try.t84, _, by kernel_rfl, rfl, rfl, rfl, ⟨z_str rfl, z_f32, z_f32, z_f32, z_f32, z_f32, z_f32, z_f32, trivial⟩⟩
theorem ti85 : TIOK Try.prog 85 ⟨.struct [(0, 9), (1, 28), (2, 33)], 8, 48, [.str [], .flt .f32 0, .flt .f32 0, .flt .f32 0, .flt .f32 0, .flt .f32 0, .flt .f32 0, .flt .f32 0], some .entry⟩ := ⟨⟨_, Try.underlying85, rfl⟩, Try.t85, _, by kernel_rfl, rfl, rfl, rfl, ⟨z_str rfl, z_f32, z_f32, z_f32, z_f32, z_f32, z_f32, z_f32, trivial⟩⟩
theorem ti86 : TIOK Try.prog 86 ⟨.other, 1, 8, [.nilf], none⟩ := ⟨⟨_, Try.underlying86, (fun f h => by cases h), (fun n e h => by cases h)⟩, Try.t86, _, by kernel_rfl, rfl, rfl, rfl, ⟨z_nilf, trivial⟩⟩
theorem ti88 : TIOK Try.prog 88 ⟨.other, 1, 8, [.nilf], none⟩ := ⟨⟨_, Try.underlying88, (fun f h => by cases h), (fun n e h => by cases h)⟩, Try.t88, _, by kernel_rfl, rfl, rfl, rfl, ⟨z_nilf, trivial⟩⟩
theorem ti90 : TIOK Try.prog 90 ⟨.other, 1, 8, [.nilf], none⟩ := ⟨⟨_, Try.underlying90, (fun f h => by cases h), (fun n e h => by cases h)⟩, Try.t90, _, by kernel_rfl, rfl, rfl, rfl, ⟨z_nilf, trivial⟩⟩
theorem ti91 : TIOK Try.prog 91 ⟨.other, 1, 8, [.nilf], none⟩ := ⟨⟨_, Try.underlying91, (fun f h => by cases h), (fun n e h => by cases h)⟩, Try.t91, _, by kernel_rfl, rfl, rfl, rfl, ⟨z_nilf, trivial⟩⟩
theorem ti92 : TIOK Try.prog 92 ⟨.slc 3, 1, 24, [.nils], none⟩ := ⟨Try.underlying92, Try.t92, _, by kernel_rfl, rfl, rfl, rfl, ⟨z_nils, trivial⟩⟩
theorem ti94 : TIOK Try.prog 94 ⟨.other, 1, 8, [.nilf], none⟩ := ⟨⟨_, Try.underlying94, (fun f h => by cases h), (fun n e h => by cases h)⟩, Try.t94, _, by kernel_rfl, rfl, rfl, rfl, ⟨z_nilf, trivial⟩⟩
theorem ti96 : TIOK Try.prog 96 ⟨.other, 1, 8, [.nilf], none⟩ := ⟨⟨_, Try.underlying96, (fun f h => by cases h), (fun n e h => by cases h)⟩, Try.t96, _, by kernel_rfl, rfl, rfl, rfl, ⟨z_nilf, trivial⟩⟩
theorem ti97 : TIOK Try.prog 97 ⟨.other, 1, 8, [.nilf], none⟩ := ⟨⟨_, Try.underlying97, (fun f h => by cases h), (fun n e h => by cases h)⟩, Try.t97, _, by kernel_rfl, rfl, rfl, rfl, ⟨z_nilf, trivial⟩⟩
theorem ti98 : TIOK Try.prog 98 ⟨.other, 1, 8, [.nilf], none⟩ := ⟨⟨_, Try.underlying98, (fun f h => by cases h), (fun n e h => by cases h)⟩, Try.t98, _, by kernel_rfl, rfl, rfl, rfl, ⟨z_nilf, trivial⟩⟩
theorem ti99 : TIOK Try.prog 99 ⟨.other, 1, 8, [.nilf], none⟩ := ⟨⟨_, Try.underlying99, (fun f h => by cases h), (fun n e h => by cases h)⟩, Try.t99, _, by kernel_rfl, rfl, rfl, rfl, ⟨z_nilf, trivial⟩⟩
theorem ti101 : TIOK Try.prog 101 ⟨.other, 1, 8, [.nilf], none⟩ := ⟨⟨_, Try.underlying101, (fun f h => by cases h), (fun n e h => by cases h)⟩, Try.t101, _, by kernel_rfl, rfl, rfl, rfl, ⟨z_nilf, trivial⟩⟩
theorem ti102 : TIOK Try.prog 102 ⟨.other, 1, 8, [.nilf], none⟩ := ⟨⟨_, Try.underlying102, (fun f h => by cases h), (fun n e h => by cases h)⟩, Try.t102, _, by kernel_rfl, rfl, rfl, rfl, ⟨z_nilf, trivial⟩⟩
theorem ti103 : TIOK Try.prog 103 ⟨.other, 1, 8, [.nilf], none⟩ := ⟨⟨_, Try.underlying103, (fun f h => by cases h), (fun n e h => by cases h)⟩, Try.t103, _, by kernel_rfl, rfl, rfl, rfl, ⟨z_nilf, trivial⟩⟩
theorem ti104 : TIOK Try.prog 104 ⟨.other, 1, 8, [.nilf], none⟩ := ⟨⟨_, Try.underlying104, (fun f h => by cases h), (fun n e h => by cases h)⟩, Try.t104, _, by kernel_rfl, rfl, rfl, rfl, ⟨z_nilf, trivial⟩⟩
theorem ti105 : TIOK Try.prog 105 ⟨.ptr 33, 1, 8, [.nilp], none⟩ := ⟨Try.underlying105, Try.t105, _, by kernel_rfl, rfl, rfl, rfl, ⟨z_nilp, trivial⟩⟩
theorem ti106 : TIOK Try.prog 106 ⟨.arr 3 36, 3, 24, [.flt .f64 0, .flt .f64 0, .flt .f64 0], none⟩ := ⟨Try.underlying106, Try.t106, _, by kernel_rfl, rfl, rfl, rfl, ⟨z_f64, z_f64, z_f64, trivial⟩⟩
theorem ti107 : TIOK Try.prog 107 ⟨.arr 3 36, 3, 24, [.flt .f64 0, .flt .f64 0, .flt .f64 0], none⟩ := ⟨Try.underlying107, Try.t107, _, by kernel_rfl, rfl, rfl, rfl, ⟨z_f64, z_f64, z_f64, trivial⟩⟩
theorem ti108 : TIOK Try.prog 108 ⟨.other, 1, 8, [.nilf], none⟩ := ⟨⟨_, Try.underlying108, (fun f h => by cases h), (fun n e h => by cases h)⟩, Try.t108, _, by kernel_rfl, rfl, rfl, rfl, ⟨z_nilf, trivial⟩⟩
theorem ti109 : TIOK Try.prog 109 ⟨.other, 1, 8, [.nilf], none⟩ := ⟨⟨_, Try.underlying109, (fun f h => by cases h), (fun n e h => by cases h)⟩, Try.t109, _, by kernel_rfl, rfl, rfl, rfl, ⟨z_nilf, trivial⟩⟩
theorem ti110 : TIOK Try.prog 110 ⟨.other, 1, 8, [.nilf], none⟩ := ⟨⟨_, Try.underlying110, (fun f h => by cases h), (fun n e h => by cases h)⟩, Try.t110, _, by kernel_rfl, rfl, rfl, rfl, ⟨z_nilf, trivial⟩⟩
theorem ti111 : TIOK Try.prog 111 ⟨.other, 1, 8, [.nilf], none⟩ := ⟨⟨_, Try.underlying111, (fun f h => by cases h), (fun n e h => by cases h)⟩, Try.t111, _, by kernel_rfl, rfl, rfl, rfl, ⟨z_nilf, trivial⟩⟩
theorem ti112 : TIOK Try.prog 112 ⟨.other, 1, 8, [.nilf], none⟩ := ⟨⟨_, Try.underlying112, (fun f h => by cases h), (fun n e h => by cases h)⟩, Try.t112, _, by kernel_rfl, rfl, rfl, rfl, ⟨z_nilf, trivial⟩⟩
theorem ti113 : TIOK Try.prog 113 ⟨.other, 1, 8, [.nilf], none⟩ := ⟨⟨_, Try.underlying113, (fun f h => by cases h), (fun n e h => by cases h)⟩, Try.t113, _, by kernel_rfl, rfl, rfl, rfl, ⟨z_nilf, trivial⟩⟩
theorem ti114 : TIOK Try.prog 114 ⟨.other, 1, 8, [.nilf], none⟩ := ⟨⟨_, Try.underlying114, (fun f h => by cases h), (fun n e h => by cases h)⟩, Try.t114, _, by kernel_rfl, rfl, rfl, rfl, ⟨z_nilf, trivial⟩⟩
theorem ti115 : TIOK Try.prog 115 ⟨.arr 3 36, 3, 24, [.flt .f64 0, .flt .f64 0, .flt .f64 0], none⟩ := ⟨Try.underlying115, Try.t115, _, by kernel_rfl, rfl, rfl, rfl, ⟨z_f64, z_f64, z_f64, trivial⟩⟩
theorem ti116 : TIOK Try.prog 116 ⟨.other, 1, 8, [.nilf], none⟩ := ⟨⟨_, Try.underlying116, (fun f h => by cases h), (fun n e h => by cases h)⟩, Try.t116, _, by kernel_rfl, rfl, rfl, rfl, ⟨z_nilf, trivial⟩⟩
theorem ti117 : TIOK Try.prog 117 ⟨.other, 1, 8, [.nilf], none⟩ := ⟨⟨_, Try.underlying117, (fun f h => by cases h), (fun n e h => by cases h)⟩, Try.t117, _, by kernel_rfl, rfl, rfl, rfl, ⟨z_nilf, trivial⟩⟩
theorem ti118 : TIOK Try.prog 118 ⟨.other, 1, 8, [.nilf], none⟩ := ⟨⟨_, Try.underlying118, (fun f h => by cases h), (fun n e h => by cases h)⟩, Try.t118, _, by kernel_rfl, rfl, rfl, rfl, ⟨z_nilf, trivial⟩⟩
theorem ti119 : TIOK Try.prog 119 ⟨.other, 1, 8, [.nilf], none⟩ := ⟨⟨_, Try.underlying119, (fun f h => by cases h), (fun n e h => by cases h)⟩, Try.t119, _, by kernel_rfl, rfl, rfl, rfl, ⟨z_nilf, trivial⟩⟩
theorem ti120 : TIOK Try.prog 120 ⟨.other, 1, 8, [.nilf], none⟩ := ⟨⟨_, Try.underlying120, (fun f h => by cases h), (fun n e h => by cases h)⟩, Try.t120, _, by kernel_rfl, rfl, rfl, rfl, ⟨z_nilf, trivial⟩⟩
theorem ti121 : TIOK Try.prog 121 ⟨.ptr 46, 1, 8, [.nilp], none⟩ := ⟨Try.underlying121, Try.t121, _, by kernel_rfl, rfl, rfl, rfl, ⟨z_nilp, trivial⟩⟩
theorem ti122 : TIOK Try.prog 122 ⟨.other, 1, 8, [.nilf], none⟩ := ⟨⟨_, Try.underlying122, (fun f h => by cases h), (fun n e h => by cases h)⟩, Try.t122, _, by kernel_rfl, rfl, rfl, rfl, ⟨z_nilf, trivial⟩⟩
theorem ti123 : TIOK Try.prog 123 ⟨.other, 1, 8, [.nilf], none⟩ := ⟨⟨_, Try.underlying123, (fun f h => by cases h), (fun n e h => by cases h)⟩, Try.t123, _, by kernel_rfl, rfl, rfl, rfl, ⟨z_nilf, trivial⟩⟩
theorem ti124 : TIOK Try.prog 124 ⟨.other, 1, 8, [.nilf], none⟩ := ⟨⟨_, Try.underlying124, (fun f h => by cases h), (fun n e h => by cases h)⟩, Try.t124, _, by kernel_rfl, rfl, rfl, rfl, ⟨z_nilf, trivial⟩⟩
theorem ti125 : TIOK Try.prog 125 ⟨.other, 1, 8, [.nilf], none⟩ := ⟨⟨_, Try.underlying125, (fun f h => by cases h), (fun n e h => by cases h)⟩, Try.t125, _, by kernel_rfl, rfl, rfl, rfl, ⟨z_nilf, trivial⟩⟩
theorem ti126 : TIOK Try.prog 126 ⟨.other, 1, 8, [.nilf], none⟩ := ⟨⟨_, Try.underlying126, (fun f h => by cases h), (fun n e h => by cases h)⟩, Try.t126, _, by kernel_rfl, rfl, rfl, rfl, ⟨z_nilf, trivial⟩⟩
theorem ti127 : TIOK Try.prog 127 ⟨.other, 1, 8, [.nilf], none⟩ := ⟨⟨_, Try.underlying127, (fun f h => by cases h), (fun n e h => by cases h)⟩, Try.t127, _, by kernel_rfl, rfl, rfl, rfl, ⟨z_nilf, trivial⟩⟩
theorem ti128 : TIOK Try.prog 128 ⟨.other, 1, 8, [.nilf], none⟩ := ⟨⟨_, Try.underlying128, (fun f h => by cases h), (fun n e h => by cases h)⟩, Try.t128, _, by kernel_rfl, rfl, rfl, rfl, ⟨z_nilf, trivial⟩⟩
theorem ti129 : TIOK Try.prog 129 ⟨.other, 1, 8, [.nilf], none⟩ := ⟨⟨_, Try.underlying129, (fun f h => by cases h), (fun n e h => by cases h)⟩, Try.t129, _, by kernel_rfl, rfl, rfl, rfl, ⟨z_nilf, trivial⟩⟩
theorem ti130 : TIOK Try.prog 130 ⟨.other, 1, 8, [.nilf], none⟩ := ⟨⟨_, Try.underlying130, (fun f h => by cases h), (fun n e h => by cases h)⟩, Try.t130, _, by kernel_rfl, rfl, rfl, rfl, ⟨z_nilf, trivial⟩⟩
theorem ti131 : TIOK Try.prog 131 ⟨.struct [(0, 48), (3, 48), (6, 28)], 7, 28, [.flt .f32 0, .flt .f32 0, .flt .f32 0, .flt .f32 0, .flt .f32 0, .flt .f32 0, .flt .f32 0], none⟩ := ⟨⟨_, Try.underlying131, rfl⟩, Try.t131, _, by kernel_rfl, rfl, rfl, rfl, ⟨z_f32, z_f32, z_f32, z_f32, z_f32, z_f32, z_f32, trivial⟩⟩
theorem ti132 : TIOK Try.prog 132 ⟨.struct [(0, 48), (3, 48), (6, 28)], 7, 28, [.flt .f32 0, .flt .f32 0, .flt .f32 0, .flt .f32 0, .flt .f32 0, .flt .f32 0, .flt .f32 0], some .body⟩ := ⟨⟨_, Try.underlying132, rfl⟩, Try.t132, _, by kernel_rfl, rfl, rfl, rfl, ⟨z_f32, z_f32, z_f32, z_f32, z_f32, z_f32, z_f32, trivial⟩⟩
theorem ti133 : TIOK Try.prog 133 ⟨.other, 1, 8, [.nilf], none⟩ := ⟨⟨_, Try.underlying133, (fun f h => by cases h), (fun n e h => by cases h)⟩, Try.t133, _, by kernel_rfl, rfl, rfl, rfl, ⟨z_nilf, trivial⟩⟩
theorem ti134 : TIOK Try.prog 134 ⟨.other, 1, 8, [.nilf], none⟩ := ⟨⟨_, Try.underlying134, (fun f h => by cases h), (fun n e h => by cases h)⟩, Try.t134, _, by kernel_rfl, rfl, rfl, rfl, ⟨z_nilf, trivial⟩⟩
theorem ti135 : TIOK Try.prog 135 ⟨.other, 1, 8, [.nilf], none⟩ := ⟨⟨_, Try.underlying135, (fun f h => by cases h), (fun n e h => by cases h)⟩, Try.t135, _, by kernel_rfl, rfl, rfl, rfl, ⟨z_nilf, trivial⟩⟩
theorem ti136 : TIOK Try.prog 136 ⟨.other, 1, 8, [.nilf], none⟩ := ⟨⟨_, Try.underlying136, (fun f h => by cases h), (fun n e h => by cases h)⟩, Try.t136, _, by kernel_rfl, rfl, rfl, rfl, ⟨z_nilf, trivial⟩⟩
theorem ti137 : TIOK Try.prog 137 ⟨.other, 1, 8, [.nilf], none⟩ := ⟨⟨_, Try.underlying137, (fun f h => by cases h), (fun n e h => by cases h)⟩, Try.t137, _, by kernel_rfl, rfl, rfl, rfl, ⟨z_nilf, trivial⟩⟩
theorem ti138 : TIOK Try.prog 138 ⟨.other, 1, 8, [.nilf], none⟩ := ⟨⟨_, Try.underlying138, (fun f h => by cases h), (fun n e h => by cases h)⟩, Try.t138, _, by kernel_rfl, rfl, rfl, rfl, ⟨z_nilf, trivial⟩⟩
theorem ti139 : TIOK Try.prog 139 ⟨.other, 1, 8, [.nilf], none⟩ := ⟨⟨_, Try.underlying139, (fun f h => by cases h), (fun n e h => by cases h)⟩, Try.t139, _, by kernel_rfl, rfl, rfl, rfl, ⟨z_nilf, trivial⟩⟩
theorem ti140 : TIOK Try.prog 140 ⟨.other, 1, 8, [.nilf], none⟩ := ⟨⟨_, Try.underlying140, (fun f h => by cases h), (fun n e h => by cases h)⟩, Try.t140, _, by kernel_rfl, rfl, rfl, rfl, ⟨z_nilf, trivial⟩⟩
theorem ti141 : TIOK Try.prog 141 ⟨.other, 1, 8, [.nilf], none⟩ := ⟨⟨_, Try.underlying141, (fun f h => by cases h), (fun n e h => by cases h)⟩, Try.t141, _, by kernel_rfl, rfl, rfl, rfl, ⟨z_nilf, trivial⟩⟩
theorem ti142 : TIOK Try.prog 142 ⟨.struct [(0, 41), (3, 41), (6, 28)], 7, 28, [.flt .f32 0, .flt .f32 0, .flt .f32 0, .flt .f32 0, .flt .f32 0, .flt .f32 0, .flt .f32 0], none⟩ := ⟨⟨_, Try.underlying142, rfl⟩, Try.t142, _, by kernel_rfl, rfl, rfl, rfl, ⟨z_f32, z_f32, z_f32, z_f32, z_f32, z_f32, z_f32, trivial⟩⟩
theorem ti143 : TIOK Try.prog 143 ⟨.struct [(0, 41), (3, 41), (6, 28)], 7, 28, [.flt .f32 0, .flt .f32 0, .flt .f32 0, .flt .f32 0, .flt .f32 0, .flt .f32 0, .flt .f32 0], some .body⟩ := ⟨⟨_, Try.underlying143, rfl⟩, Try.t143, _, by kernel_rfl, rfl, rfl, rfl, ⟨z_f32, z_f32, z_f32, z_f32, z_f32, z_f32, z_f32, trivial⟩⟩
theorem ti144 : TIOK Try.prog 144 ⟨.other, 1, 8, [.nilf], none⟩ := ⟨⟨_, Try.underlying144, (fun f h => by cases h), (fun n e h => by cases h)⟩, Try.t144, _, by kernel_rfl, rfl, rfl, rfl, ⟨z_nilf, trivial⟩⟩
theorem ti145 : TIOK Try.prog 145 ⟨.other, 1, 8, [.nilf], none⟩ := ⟨⟨_, Try.underlying145, (fun f h => by cases h), (fun n e h => by cases h)⟩, Try.t145, _, by kernel_rfl, rfl, rfl, rfl, ⟨z_nilf, trivial⟩⟩
theorem ti146 : TIOK Try.prog 146 ⟨.slc 28, 1, 24, [.nils], none⟩ := ⟨Try.underlying146, Try.t146, _, by kernel_rfl, rfl, rfl, rfl, ⟨z_nils, trivial⟩⟩
theorem ti147 : TIOK Try.prog 147 ⟨.other, 1, 8, [.nilf], none⟩ := ⟨⟨_, Try.underlying147, (fun f h => by cases h), (fun n e h => by cases h)⟩, Try.t147, _, by kernel_rfl, rfl, rfl, rfl, ⟨z_nilf, trivial⟩⟩
theorem ti148 : TIOK Try.prog 148 ⟨.other, 1, 8, [.nilf], none⟩ := ⟨⟨_, Try.underlying148, (fun f h => by cases h), (fun n e h => by cases h)⟩, Try.t148, _, by kernel_rfl, rfl, rfl, rfl, ⟨z_nilf, trivial⟩⟩
theorem ti149 : TIOK Try.prog 149 ⟨.other, 1, 8, [.nilf], none⟩ := ⟨⟨_, Try.underlying149, (fun f h => by cases h), (fun n e h => by cases h)⟩, Try.t149, _, by kernel_rfl, rfl, rfl, rfl, ⟨z_nilf, trivial⟩⟩
theorem ti151 : TIOK Try.prog 151 ⟨.other, 1, 8, [.nilf], none⟩ := ⟨⟨_, Try.underlying151, (fun f h => by cases h), (fun n e h => by cases h)⟩, Try.t151, _, by kernel_rfl, rfl, rfl, rfl, ⟨z_nilf, trivial⟩⟩
theorem ti153 : TIOK Try.prog 153 ⟨.other, 1, 8, [.nilf], none⟩ := ⟨⟨_, Try.underlying153, (fun f h => by cases h), (fun n e h => by cases h)⟩, Try.t153, _, by kernel_rfl, rfl, rfl, rfl, ⟨z_nilf, trivial⟩⟩
theorem ti154 : TIOK Try.prog 154 ⟨.other, 1, 8, [.nilf], none⟩ := ⟨⟨_, Try.underlying154, (fun f h => by cases h), (fun n e h => by cases h)⟩, Try.t154, _, by kernel_rfl, rfl, rfl, rfl, ⟨z_nilf, trivial⟩⟩
theorem ti155 : TIOK Try.prog 155 ⟨.ptr 199, 1, 8, [.nilp], none⟩ := ⟨Try.underlying155, Try.t155, _, by kernel_rfl, rfl, rfl, rfl, ⟨z_nilp, trivial⟩⟩
theorem ti156 : TIOK Try.prog 156 ⟨.other, 1, 8, [.nilf], none⟩ := ⟨⟨_, Try.underlying156, (fun f h => by cases h), (fun n e h => by cases h)⟩, Try.t156, _, by kernel_rfl, rfl, rfl, rfl, ⟨z_nilf, trivial⟩⟩
theorem ti157 : TIOK Try.prog 157 ⟨.other, 1, 8, [.nilf], none⟩ := ⟨⟨_, Try.underlying157, (fun f h => by cases h), (fun n e h => by cases h)⟩, Try.t157, _, by kernel_rfl, rfl, rfl, rfl, ⟨z_nilf, trivial⟩⟩
theorem ti158 : TIOK Try.prog 158 ⟨.other, 1, 8, [.nilf], none⟩ := ⟨⟨_, Try.underlying158, (fun f h => by cases h), (fun n e h => by cases h)⟩, Try.t158, _, by kernel_rfl, rfl, rfl, rfl, ⟨z_nilf, trivial⟩⟩
theorem ti159 : TIOK Try.prog 159 ⟨.slc 9, 1, 24, [.nils], none⟩ := ⟨Try.underlying159, Try.t159, _, by kernel_rfl, rfl, rfl, rfl, ⟨z_nils, trivial⟩⟩
theorem ti160 : TIOK Try.prog 160 ⟨.other, 1, 8, [.nilf], none⟩ := ⟨⟨_, Try.underlying160, (fun f h => by cases h), (fun n e h => by cases h)⟩, Try.t160, _, by kernel_rfl, rfl, rfl, rfl, ⟨z_nilf, trivial⟩⟩
theorem ti161 : TIOK Try.prog 161 ⟨.other, 1, 8, [.nilf], none⟩ := ⟨⟨_, Try.underlying161, (fun f h => by cases h), (fun n e h => by cases h)⟩, Try.t161, _, by kernel_rfl, rfl, rfl, rfl, ⟨z_nilf, trivial⟩⟩
theorem ti162 : TIOK Try.prog 162 ⟨.other, 1, 8, [.nilf], none⟩ := ⟨⟨_, Try.underlying162, (fun f h => by cases h), (fun n e h => by cases h)⟩, Try.t162, _, by kernel_rfl, rfl, rfl, rfl, ⟨z_nilf, trivial⟩⟩
theorem ti163 : TIOK Try.prog 163 ⟨.other, 1, 8, [.nilf], none⟩ := ⟨⟨_, Try.underlying163, (fun f h => by cases h), (fun n e h => by cases h)⟩, Try.t163, _, by kernel_rfl, rfl, rfl, rfl, ⟨z_nilf, trivial⟩⟩
theorem ti164 : TIOK Try.prog 164 ⟨.other, 1, 8, [.nilf], none⟩ := ⟨⟨_, Try.underlying164, (fun f h => by cases h), (fun n e h => by cases h)⟩, Try.t164, _, by kernel_rfl, rfl, rfl, rfl, ⟨z_nilf, trivial⟩⟩
theorem ti165 : TIOK Try.prog 165 ⟨.other, 1, 8, [.nilf], none⟩ := ⟨⟨_, Try.underlying165, (fun f h => by cases h), (fun n e h => by cases h)⟩, Try.t165, _, by kernel_rfl, rfl, rfl, rfl, ⟨z_nilf, trivial⟩⟩
theorem ti166 : TIOK Try.prog 166 ⟨.other, 1, 8, [.nilf], none⟩ := ⟨⟨_, Try.underlying166, (fun f h => by cases h), (fun n e h => by cases h)⟩, Try.t166, _, by kernel_rfl, rfl, rfl, rfl, ⟨z_nilf, trivial⟩⟩
theorem ti167 : TIOK Try.prog 167 ⟨.other, 1, 8, [.nilf], none⟩ := ⟨⟨_, Try.underlying167, (fun f h => by cases h), (fun n e h => by cases h)⟩, Try.t167, _, by kernel_rfl, rfl, rfl, rfl, ⟨z_nilf, trivial⟩⟩
theorem ti168 : TIOK Try.prog 168 ⟨.other, 1, 8, [.nilf], none⟩ := ⟨⟨_, Try.underlying168, (fun f h => by cases h), (fun n e h => by cases h)⟩, Try.t168, _, by kernel_rfl, rfl, rfl, rfl, ⟨z_nilf, trivial⟩⟩
theorem ti169 : TIOK Try.prog 169 ⟨.ptr 85, 1, 8, [.nilp], none⟩ := ⟨Try.underlying169, Try.t169, _, by kernel_rfl, rfl, rfl, rfl, ⟨z_nilp, trivial⟩⟩
theorem ti170 : TIOK Try.prog 170 ⟨.other, 1, 8, [.nilf], none⟩ := ⟨⟨_, Try.underlying170, (fun f h => by cases h), (fun n e h => by cases h)⟩, Try.t170, _, by kernel_rfl, rfl, rfl, rfl, ⟨z_nilf, trivial⟩⟩
theorem ti171 : TIOK Try.prog 171 ⟨.int .u32, 1, 4, [.int .u32 0], some (.int .u32)⟩ := ⟨Try.underlying171, Try.t171, _, by kernel_rfl, rfl, rfl, rfl, ⟨z_int, trivial⟩⟩
theorem ti172 : TIOK Try.prog 172 ⟨.int .u64, 1, 8, [.int .u64 0], some (.int .u64)⟩ := ⟨Try.underlying172, Try.t172, _, by kernel_rfl, rfl, rfl, rfl, ⟨z_int, trivial⟩⟩
theorem ti173 : TIOK Try.prog 173 ⟨.other, 1, 8, [.nilf], none⟩ := ⟨⟨_, Try.underlying173, (fun f h => by cases h), (fun n e h => by cases h)⟩, Try.t173, _, by kernel_rfl, rfl, rfl, rfl, ⟨z_nilf, trivial⟩⟩
theorem ti174 : TIOK Try.prog 174 ⟨.other, 1, 8, [.nilf], none⟩ := ⟨⟨_, Try.underlying174, (fun f h => by cases h), (fun n e h => by cases h)⟩, Try.t174, _, by kernel_rfl, rfl, rfl, rfl, ⟨z_nilf, trivial⟩⟩
theorem ti175 : TIOK Try.prog 175 ⟨.other, 1, 8, [.nilf], none⟩ := ⟨⟨_, Try.underlying175, (fun f h => by cases h), (fun n e h => by cases h)⟩, Try.t175, _, by kernel_rfl, rfl, rfl, rfl, ⟨z_nilf, trivial⟩⟩
theorem ti176 : TIOK Try.prog 176 ⟨.other, 1, 8, [.nilf], none⟩ := ⟨⟨_, Try.underlying176, (fun f h => by cases h), (fun n e h => by cases h)⟩, Try.t176, _, by kernel_rfl, rfl, rfl, rfl, ⟨z_nilf, trivial⟩⟩
theorem ti177 : TIOK Try.prog 177 ⟨.other, 1, 8, [.nilf], none⟩ := ⟨⟨_, Try.underlying177, (fun f h => by cases h), (fun n e h => by cases h)⟩, Try.t177, _, by kernel_rfl, rfl, rfl, rfl, ⟨z_nilf, trivial⟩⟩
theorem ti178 : TIOK Try.prog 178 ⟨.other, 1, 8, [.nilf], none⟩ := ⟨⟨_, Try.underlying178, (fun f h => by cases h), (fun n e h => by cases h)⟩, Try.t178, _, by kernel_rfl, rfl, rfl, rfl, ⟨z_nilf, trivial⟩⟩
theorem ti179 : TIOK Try.prog 179 ⟨.other, 1, 8, [.nilf], none⟩ := ⟨⟨_, Try.underlying179, (fun f h => by cases h), (fun n e h => by cases h)⟩, Try.t179, _, by kernel_rfl, rfl, rfl, rfl, ⟨z_nilf, trivial⟩⟩
theorem ti180 : TIOK Try.prog 180 ⟨.other, 1, 8, [.nilf], none⟩ := ⟨⟨_, Try.underlying180, (fun f h => by cases h), (fun n e h => by cases h)⟩, Try.t180, _, by kernel_rfl, rfl, rfl, rfl, ⟨z_nilf, trivial⟩⟩
theorem ti181 : TIOK Try.prog 181 ⟨.other, 1, 8, [.nilf], none⟩ := ⟨⟨_, Try.underlying181, (fun f h => by cases h), (fun n e h => by cases h)⟩, Try.t181, _, by kernel_rfl, rfl, rfl, rfl, ⟨z_nilf, trivial⟩⟩
theorem ti182 : TIOK Try.prog 182 ⟨.ptr 43, 1, 8, [.nilp], none⟩ := ⟨Try.underlying182, Try.t182, _, by kernel_rfl, rfl, rfl, rfl, ⟨z_nilp, trivial⟩⟩
theorem ti183 : TIOK Try.prog 183 ⟨.other, 1, 8, [.nilf], none⟩ := ⟨⟨_, Try.underlying183, (fun f h => by cases h), (fun n e h => by cases h)⟩, Try.t183, _, by kernel_rfl, rfl, rfl, rfl, ⟨z_nilf, trivial⟩⟩
theorem ti184 : TIOK Try.prog 184 ⟨.other, 1, 8, [.nilf], none⟩ := ⟨⟨_, Try.underlying184, (fun f h => by cases h), (fun n e h => by cases h)⟩, Try.t184, _, by kernel_rfl, rfl, rfl, rfl, ⟨z_nilf, trivial⟩⟩
theorem ti185 : TIOK Try.prog 185 ⟨.other, 1, 8, [.nilf], none⟩ := ⟨⟨_, Try.underlying185, (fun f h => by cases h), (fun n e h => by cases h)⟩, Try.t185, _, by kernel_rfl, rfl, rfl, rfl, ⟨z_nilf, trivial⟩⟩
theorem ti186 : TIOK Try.prog 186 ⟨.other, 1, 8, [.nilf], none⟩ := ⟨⟨_, Try.underlying186, (fun f h => by cases h), (fun n e h => by cases h)⟩, Try.t186, _, by kernel_rfl, rfl, rfl, rfl, ⟨z_nilf, trivial⟩⟩
theorem ti187 : TIOK Try.prog 187 ⟨.other, 1, 8, [.nilf], none⟩ := ⟨⟨_, Try.underlying187, (fun f h => by cases h), (fun n e h => by cases h)⟩, Try.t187, _, by kernel_rfl, rfl, rfl, rfl, ⟨z_nilf, trivial⟩⟩
theorem ti188 : TIOK Try.prog 188 ⟨.other, 1, 8, [.nilf], none⟩ := ⟨⟨_, Try.underlying188, (fun f h => by cases h), (fun n e h => by cases h)⟩, Try.t188, _, by kernel_rfl, rfl, rfl, rfl, ⟨z_nilf, trivial⟩⟩
theorem ti189 : TIOK Try.prog 189 ⟨.other, 1, 8, [.nilf], none⟩ := ⟨⟨_, Try.underlying189, (fun f h => by cases h), (fun n e h => by cases h)⟩, Try.t189, _, by kernel_rfl, rfl, rfl, rfl, ⟨z_nilf, trivial⟩⟩
theorem ti190 : TIOK Try.prog 190 ⟨.slc 48, 1, 24, [.nils], none⟩ := ⟨Try.underlying190, Try.t190, _, by kernel_rfl, rfl, rfl, rfl, ⟨z_nils, trivial⟩⟩
theorem ti192 : TIOK Try.prog 192 ⟨.other, 1, 8, [.nilf], none⟩ := ⟨⟨_, Try.underlying192, (fun f h => by cases h), (fun n e h => by cases h)⟩, Try.t192, _, by kernel_rfl, rfl, rfl, rfl, ⟨z_nilf, trivial⟩⟩
theorem ti193 : TIOK Try.prog 193 ⟨.other, 1, 8, [.nilf], none⟩ := ⟨⟨_, Try.underlying193, (fun f h => by cases h), (fun n e h => by cases h)⟩, Try.t193, _, by kernel_rfl, rfl, rfl, rfl, ⟨z_nilf, trivial⟩⟩
theorem ti194 : TIOK Try.prog 194 ⟨.other, 1, 8, [.nilf], none⟩ := ⟨⟨_, Try.underlying194, (fun f h => by cases h), (fun n e h => by cases h)⟩, Try.t194, _, by kernel_rfl, rfl, rfl, rfl, ⟨z_nilf, trivial⟩⟩
theorem ti196 : TIOK Try.prog 196 ⟨.other, 1, 8, [.nilf], none⟩ := ⟨⟨_, Try.underlying196, (fun f h => by cases h), (fun n e h => by cases h)⟩, Try.t196, _, by kernel_rfl, rfl, rfl, rfl, ⟨z_nilf, trivial⟩⟩
theorem ti197 : TIOK Try.prog 197 ⟨.int .u64, 1, 8, [.int .u64 0], some (.int .u64)⟩ := ⟨Try.underlying197, Try.t197, _, by kernel_rfl, rfl, rfl, rfl, ⟨z_int, trivial⟩⟩
theorem ti198 : TIOK Try.prog 198 ⟨.struct [(0, 78), (1, 3), (2, 197)], 3, 40, [.nils, .int .i64 0, .int .u64 0], none⟩ := ⟨⟨_, Try.underlying198, rfl⟩, Try.t198, _, by kernel_rfl, rfl, rfl, rfl, ⟨z_nils, z_int, z_int, trivial⟩⟩
theorem ti199 : TIOK Try.prog 199 ⟨.struct [(0, 78), (1, 3), (2, 197)], 3, 40, [.nils, .int .i64 0, .int .u64 0], none⟩ := ⟨⟨_, Try.underlying199, rfl⟩, Try.t199, _, by kernel_rfl, rfl, rfl, rfl, ⟨z_nils, z_int, z_int, trivial⟩⟩
theorem ti200 : TIOK Try.prog 200 ⟨.other, 1, 8, [.nilf], none⟩ := ⟨⟨_, Try.underlying200, (fun f h => by cases h), (fun n e h => by cases h)⟩, Try.t200, _, by kernel_rfl, rfl, rfl, rfl, ⟨z_nilf, trivial⟩⟩
theorem ti201 : TIOK Try.prog 201 ⟨.slc 22, 1, 24, [.nils], none⟩ := ⟨Try.underlying201, Try.t201, _, by kernel_rfl, rfl, rfl, rfl, ⟨z_nils, trivial⟩⟩
theorem ti202 : TIOK Try.prog 202 ⟨.other, 1, 8, [.nilf], none⟩ := ⟨⟨_, Try.underlying202, (fun f h => by cases h), (fun n e h => by cases h)⟩, Try.t202, _, by kernel_rfl, rfl, rfl, rfl, ⟨z_nilf, trivial⟩⟩
theorem ti203 : TIOK Try.prog 203 ⟨.other, 1, 8, [.nilf], none⟩ := ⟨⟨_, Try.underlying203, (fun f h => by cases h), (fun n e h => by cases h)⟩, Try.t203, _, by kernel_rfl, rfl, rfl, rfl, ⟨z_nilf, trivial⟩⟩
theorem ti204 : TIOK Try.prog 204 ⟨.other, 1, 8, [.nilf], none⟩ := ⟨⟨_, Try.underlying204, (fun f h => by cases h), (fun n e h => by cases h)⟩, Try.t204, _, by kernel_rfl, rfl, rfl, rfl, ⟨z_nilf, trivial⟩⟩
theorem ti205 : TIOK Try.prog 205 ⟨.other, 1, 8, [.nilf], none⟩ := ⟨⟨_, Try.underlying205, (fun f h => by cases h), (fun n e h => by cases h)⟩, Try.t205, _, by kernel_rfl, rfl, rfl, rfl, ⟨z_nilf, trivial⟩⟩
theorem ti206 : TIOK Try.prog 206 ⟨.other, 1, 8, [.nilf], none⟩ := ⟨⟨_, Try.underlying206, (fun f h => by cases h), (fun n e h => by cases h)⟩, Try.t206, _, by kernel_rfl, rfl, rfl, rfl, ⟨z_nilf, trivial⟩⟩
theorem ti207 : TIOK Try.prog 207 ⟨.other, 1, 8, [.nilf], none⟩ := ⟨⟨_, Try.underlying207, (fun f h => by cases h), (fun n e h => by cases h)⟩, Try.t207, _, by kernel_rfl, rfl, rfl, rfl, ⟨z_nilf, trivial⟩⟩
theorem ti208 : TIOK Try.prog 208 ⟨.other, 1, 8, [.nilf], none⟩ := ⟨⟨_, Try.underlying208, (fun f h => by cases h), (fun n e h => by cases h)⟩, Try.t208, _, by kernel_rfl, rfl, rfl, rfl, ⟨z_nilf, trivial⟩⟩
theorem ti209 : TIOK Try.prog 209 ⟨.other, 1, 8, [.nilf], none⟩ := ⟨⟨_, Try.underlying209, (fun f h => by cases h), (fun n e h => by cases h)⟩, Try.t209, _, by kernel_rfl, rfl, rfl, rfl, ⟨z_nilf, trivial⟩⟩
theorem ti210 : TIOK Try.prog 210 ⟨.other, 1, 8, [.nilf], none⟩ := ⟨⟨_, Try.underlying210, (fun f h => by cases h), (fun n e h => by cases h)⟩, Try.t210, _, by kernel_rfl, rfl, rfl, rfl, ⟨z_nilf, trivial⟩⟩
theorem ti211 : TIOK Try.prog 211 ⟨.other, 1, 8, [.nilf], none⟩ := ⟨⟨_, Try.underlying211, (fun f h => by cases h), (fun n e h => by cases h)⟩, Try.t211, _, by kernel_rfl, rfl, rfl, rfl, ⟨z_nilf, trivial⟩⟩
theorem ti212 : TIOK Try.prog 212 ⟨.ptr 132, 1, 8, [.nilp], none⟩ := ⟨Try.underlying212, Try.t212, _, by kernel_rfl, rfl, rfl, rfl, ⟨z_nilp, trivial⟩⟩
theorem ti214 : TIOK Try.prog 214 ⟨.other, 1, 8, [.nilf], none⟩ := ⟨⟨_, Try.underlying214, (fun f h => by cases h), (fun n e h => by cases h)⟩, Try.t214, _, by kernel_rfl, rfl, rfl, rfl, ⟨z_nilf, trivial⟩⟩
theorem ti215 : TIOK Try.prog 215 ⟨.other, 1, 8, [.nilf], none⟩ := ⟨⟨_, Try.underlying215, (fun f h => by cases h), (fun n e h => by cases h)⟩, Try.t215, _, by kernel_rfl, rfl, rfl, rfl, ⟨z_nilf, trivial⟩⟩
theorem ti216 : TIOK Try.prog 216 ⟨.other, 1, 8, [.nilf], none⟩ := ⟨⟨_, Try.underlying216, (fun f h => by cases h), (fun n e h => by cases h)⟩, Try.t216, _, by kernel_rfl, rfl, rfl, rfl, ⟨z_nilf, trivial⟩⟩
theorem ti217 : TIOK Try.prog 217 ⟨.other, 1, 8, [.nilf], none⟩ := ⟨⟨_, Try.underlying217, (fun f h => by cases h), (fun n e h => by cases h)⟩, Try.t217, _, by kernel_rfl, rfl, rfl, rfl, ⟨z_nilf, trivial⟩⟩
theorem ti218 : TIOK Try.prog 218 ⟨.other, 1, 8, [.nilf], none⟩ := ⟨⟨_, Try.underlying218, (fun f h => by cases h), (fun n e h => by cases h)⟩, Try.t218, _, by kernel_rfl, rfl, rfl, rfl, ⟨z_nilf, trivial⟩⟩
theorem ti219 : TIOK Try.prog 219 ⟨.other, 1, 8, [.nilf], none⟩ := ⟨⟨_, Try.underlying219, (fun f h => by cases h), (fun n e h => by cases h)⟩, Try.t219, _, by kernel_rfl, rfl, rfl, rfl, ⟨z_nilf, trivial⟩⟩
theorem ti220 : TIOK Try.prog 220 ⟨.other, 1, 8, [.nilf], none⟩ := ⟨⟨_, Try.underlying220, (fun f h => by cases h), (fun n e h => by cases h)⟩, Try.t220, _, by kernel_rfl, rfl, rfl, rfl, ⟨z_nilf, trivial⟩⟩
theorem ti221 : TIOK Try.prog 221 ⟨.other, 1, 8, [.nilf], none⟩ := ⟨⟨_, Try.underlying221, (fun f h => by cases h), (fun n e h => by cases h)⟩, Try.t221, _, by kernel_rfl, rfl, rfl, rfl, ⟨z_nilf, trivial⟩⟩
theorem ti223 : TIOK Try.prog 223 ⟨.other, 1, 8, [.nilf], none⟩ := ⟨⟨_, Try.underlying223, (fun f h => by cases h), (fun n e h => by cases h)⟩, Try.t223, _, by kernel_rfl, rfl, rfl, rfl, ⟨z_nilf, trivial⟩⟩
theorem ti224 : TIOK Try.prog 224 ⟨.other, 1, 8, [.nilf], none⟩ := ⟨⟨_, Try.underlying224, (fun f h => by cases h), (fun n e h => by cases h)⟩, Try.t224, _, by kernel_rfl, rfl, rfl, rfl, ⟨z_nilf, trivial⟩⟩
theorem ti225 : TIOK Try.prog 225 ⟨.other, 1, 8, [.nilf], none⟩ := ⟨⟨_, Try.underlying225, (fun f h => by cases h), (fun n e h => by cases h)⟩, Try.t225, _, by kernel_rfl, rfl, rfl, rfl, ⟨z_nilf, trivial⟩⟩
theorem ti226 : TIOK Try.prog 226 ⟨.struct [(0, 17), (1, 17), (2, 17), (3, 9)], 4, 40, [.nilp, .nilp, .nilp, .str []], none⟩ := ⟨⟨_, Try.underlying226, rfl⟩, Try.t226, _, by kernel_rfl, rfl, rfl, rfl, ⟨z_nilp, z_nilp, z_nilp, z_str rfl, trivial⟩⟩
theorem ti227 : TIOK Try.prog 227 ⟨.struct [(0, 17), (1, 17), (2, 17), (3, 9)], 4, 40, [.nilp, .nilp, .nilp, .str []], none⟩ := ⟨⟨_, Try.underlying227, rfl⟩, Try.t227, _, by kernel_rfl, rfl, rfl, rfl, ⟨z_nilp, z_nilp, z_nilp, z_str rfl, trivial⟩⟩
theorem ti228 : TIOK Try.prog 228 ⟨.arr 0 16, 0, 0, [], none⟩ := ⟨Try.underlying228, Try.t228, _, by kernel_rfl, rfl, rfl, rfl, trivial⟩
theorem ti229 : TIOK Try.prog 229 ⟨.struct [(0, 228)], 0, 0, [], none⟩ := ⟨⟨_, Try.underlying229, rfl⟩, Try.t229, _, by kernel_rfl, rfl, rfl, rfl, trivial⟩
theorem ti230 : TIOK Try.prog 230 ⟨.struct [(0, 228)], 0, 0, [], none⟩ := ⟨⟨_, Try.underlying230, rfl⟩, Try.t230, _, by kernel_rfl, rfl, rfl, rfl, trivial⟩
theorem ti231 : TIOK Try.prog 231 ⟨.other, 1, 8, [.nilf], none⟩ := ⟨⟨_, Try.underlying231, (fun f h => by cases h), (fun n e h => by cases h)⟩, Try.t231, _, by kernel_rfl, rfl, rfl, rfl, ⟨z_nilf, trivial⟩⟩
theorem ti232 : TIOK Try.prog 232 ⟨.int .u8, 1, 1, [.int .u8 0], some (.int .u8)⟩ := ⟨Try.underlying232, Try.t232, _, by kernel_rfl, rfl, rfl, rfl, ⟨z_int, trivial⟩⟩
theorem ti233 : TIOK Try.prog 233 ⟨.int .u8, 1, 1, [.int .u8 0], some (.int .u8)⟩ := ⟨Try.underlying233, Try.t233, _, by kernel_rfl, rfl, rfl, rfl, ⟨z_int, trivial⟩⟩
theorem ti234 : TIOK Try.prog 234 ⟨.other, 1, 8, [.nilf], none⟩ := ⟨⟨_, Try.underlying234, (fun f h => by cases h), (fun n e h => by cases h)⟩, Try.t234, _, by kernel_rfl, rfl, rfl, rfl, ⟨z_nilf, trivial⟩⟩
theorem ti235 : TIOK Try.prog 235 ⟨.ptr 5, 1, 8, [.nilp], none⟩ := ⟨Try.underlying235, Try.t235, _, by kernel_rfl, rfl, rfl, rfl, ⟨z_nilp, trivial⟩⟩
theorem ti236 : TIOK Try.prog 236 ⟨.int .i32, 1, 4, [.int .i32 0], some (.int .i32)⟩ := ⟨Try.underlying236, Try.t236, _, by kernel_rfl, rfl, rfl, rfl, ⟨z_int, trivial⟩⟩
theorem ti237 : TIOK Try.prog 237 ⟨.int .i32, 1, 4, [.int .i32 0], some (.int .i32)⟩ := ⟨Try.underlying237, Try.t237, _, by kernel_rfl, rfl, rfl, rfl, ⟨z_int, trivial⟩⟩
theorem ti238 : TIOK Try.prog 238 ⟨.struct [(0, 12), (1, 12), (2, 171), (3, 232), (4, 5), (5, 5), (6, 233), (7, 234), (8, 235), (9, 236), (10, 237)], 11, 48, [.int .u64 0, .int .u64 0, .int .u32 0, .int .u8 0, .int .u8 0, .int .u8 0, .int .u8 0, .nilf, .nilp, .int .i32 0, .int .i32 0], none⟩ := ⟨⟨_, Try.underlying238, rfl⟩, Try.t238, _, by kernel_rfl, rfl, rfl, rfl, ⟨z_int, z_int, z_int, z_int, z_int, z_int, z_int, z_nilf, z_nilp, z_int, z_int, trivial⟩⟩
theorem ti239 : TIOK Try.prog 239 ⟨.struct [(0, 12), (1, 12), (2, 171), (3, 232), (4, 5), (5, 5), (6, 233), (7, 234), (8, 235), (9, 236), (10, 237)], 11, 48, [.int .u64 0, .int .u64 0, .int .u32 0, .int .u8 0, .int .u8 0, .int .u8 0, .int .u8 0, .nilf, .nilp, .int .i32 0, .int .i32 0], none⟩ := ⟨⟨_, Try.underlying239, rfl⟩, Try.t239, _, by kernel_rfl, rfl, rfl, rfl, ⟨z_int, z_int, z_int, z_int, z_int, z_int, z_int, z_nilf, z_nilp, z_int, z_int, trivial⟩⟩
theorem ti240 : TIOK Try.prog 240 ⟨.other, 1, 8, [.nilp], none⟩ := ⟨⟨_, Try.underlying240, (fun f h => by cases h), (fun n e h => by cases h)⟩, Try.t240, _, by kernel_rfl, rfl, rfl, rfl, ⟨z_nilp, trivial⟩⟩
def tget : List (Nat × TI) → TT
  | [], _ => none
  | (n, i) :: r, t => bif n == t then some i else tget r t
def tget2 : List (List (Nat × TI)) → TT
  | [], _ => none
  | l :: r, t => match tget l t with
    | some i => some i
    | none => tget2 r t
def AllT (P : Program) : List (Nat × TI) → Prop
  | [] => True
  | x :: r => TIOK P x.1 x.2 ∧ AllT P r
def AllT2 (P : Program) : List (List (Nat × TI)) → Prop
  | [] => True
  | x :: r => AllT P x ∧ AllT2 P r
theorem tget_ok {P : Program} : ∀ (l : List (Nat × TI)), AllT P l → TTOK P (tget l)
  | [], _ => fun t i h => by simp [tget] at h
  | (n, j) :: r, hl => fun t i h => by
    simp only [tget, cond_eq_ite, beq_iff_eq] at h
    by_cases q : n = t
    · rw [if_pos q] at h; cases h; subst q; exact hl.1
    · rw [if_neg q] at h; exact tget_ok r hl.2 t i h
theorem tget2_ok {P : Program} : ∀ (l : List (List (Nat × TI))), AllT2 P l → TTOK P (tget2 l)
  | [], _ => fun t i h => by simp [tget2] at h
  | x :: r, hl => fun t i h => by
    simp only [tget2] at h
    split at h
    · rename_i j hj; cases h; exact tget_ok x hl.1 t _ hj
    · exact tget2_ok r hl.2 t i h
def tl0 : List (Nat × TI) := [
(1, ⟨.other, 1, 8, [.nilf], none⟩),
(2, ⟨.int .i64, 1, 8, [.int .i64 0], some (.int .i64)⟩),
(3, ⟨.int .i64, 1, 8, [.int .i64 0], some (.int .i64)⟩),
(4, ⟨.bool, 1, 1, [.bool false], some .bool⟩),
(5, ⟨.int .u8, 1, 1, [.int .u8 0], some (.int .u8)⟩),
(6, ⟨.int .u8, 1, 1, [.int .u8 0], some (.int .u8)⟩),
(7, ⟨.struct [(0, 2), (1, 3), (2, 4), (3, 6)], 4, 24, [.int .i64 0, .int .i64 0, .bool false, .int .u8 0], none⟩),
(8, ⟨.struct [(0, 2), (1, 3), (2, 4), (3, 6)], 4, 24, [.int .i64 0, .int .i64 0, .bool false, .int .u8 0], none⟩),
(9, ⟨.str, 1, 16, [.str []], some .str⟩),
(10, ⟨.str, 1, 16, [.str []], some .str⟩),
(11, ⟨.str, 1, 16, [.str []], some .str⟩),
(12, ⟨.int .u64, 1, 8, [.int .u64 0], some (.int .u64)⟩),
(13, ⟨.struct [(0, 9), (1, 12)], 2, 24, [.str [], .int .u64 0], none⟩),
(14, ⟨.struct [(0, 9), (1, 12)], 2, 24, [.str [], .int .u64 0], none⟩),
(15, ⟨.ptr 227, 1, 8, [.nilp], none⟩),
(16, ⟨.ptr 230, 1, 8, [.nilp], none⟩),
(17, ⟨.ptr 239, 1, 8, [.nilp], none⟩),
(18, ⟨.struct [(0, 17)], 1, 8, [.nilp], none⟩),
(19, ⟨.struct [(0, 17)], 1, 8, [.nilp], none⟩),
(20, ⟨.other, 1, 16, [.nili], none⟩),
(21, ⟨.int .i32, 1, 4, [.int .i32 0], some (.int .i32)⟩),
(22, ⟨.slc 85, 1, 24, [.nils], none⟩),
(24, ⟨.other, 1, 8, [.nilf], none⟩),
(25, ⟨.other, 1, 8, [.nilf], none⟩)
]
theorem tlOk0 : AllT Try.prog tl0 := ⟨ti1, ti2, ti3, ti4, ti5, ti6, ti7, ti8, ti9, ti10, ti11, ti12, ti13, ti14, ti15, ti16, ti17, ti18, ti19, ti20, ti21, ti22, ti24, ti25, trivial⟩
def tl1 : List (Nat × TI) := [
(26, ⟨.other, 1, 8, [.nilf], none⟩),
(27, ⟨.other, 1, 8, [.nilf], none⟩),
(28, ⟨.flt .f32, 1, 4, [.flt .f32 0], some (.flt .f32)⟩),
(29, ⟨.struct [(0, 28), (1, 28), (2, 28), (3, 28), (4, 28), (5, 28)], 6, 24, [.flt .f32 0, .flt .f32 0, .flt .f32 0, .flt .f32 0, .flt .f32 0, .flt .f32 0], none⟩),
(30, ⟨.struct [(0, 28), (1, 28), (2, 28), (3, 28), (4, 28), (5, 28)], 6, 24, [.flt .f32 0, .flt .f32 0, .flt .f32 0, .flt .f32 0, .flt .f32 0, .flt .f32 0], none⟩),
(32, ⟨.other, 1, 8, [.nilf], none⟩),
(33, ⟨.struct [(0, 28), (1, 28), (2, 28), (3, 28), (4, 28), (5, 28)], 6, 24, [.flt .f32 0, .flt .f32 0, .flt .f32 0, .flt .f32 0, .flt .f32 0, .flt .f32 0], none⟩),
(34, ⟨.other, 1, 8, [.nilf], none⟩),
(35, ⟨.other, 1, 8, [.nilf], none⟩),
(36, ⟨.flt .f64, 1, 8, [.flt .f64 0], some (.flt .f64)⟩),
(37, ⟨.other, 1, 8, [.nilf], none⟩),
(38, ⟨.struct [(0, 28), (1, 28), (2, 28), (3, 28)], 4, 16, [.flt .f32 0, .flt .f32 0, .flt .f32 0, .flt .f32 0], none⟩),
(39, ⟨.struct [(0, 28), (1, 28), (2, 28), (3, 28)], 4, 16, [.flt .f32 0, .flt .f32 0, .flt .f32 0, .flt .f32 0], none⟩),
(40, ⟨.struct [(0, 28), (1, 28), (2, 28)], 3, 12, [.flt .f32 0, .flt .f32 0, .flt .f32 0], none⟩),
(41, ⟨.struct [(0, 28), (1, 28), (2, 28)], 3, 12, [.flt .f32 0, .flt .f32 0, .flt .f32 0], some .vec⟩),
(42, ⟨.struct [(0, 28), (1, 28), (2, 28)], 3, 12, [.flt .f32 0, .flt .f32 0, .flt .f32 0], none⟩),
(43, ⟨.struct [(0, 28), (1, 28), (2, 28)], 3, 12, [.flt .f32 0, .flt .f32 0, .flt .f32 0], some .mark⟩),
(45, ⟨.other, 1, 8, [.nilf], none⟩),
(46, ⟨.struct [(0, 28), (1, 28), (2, 28), (3, 28)], 4, 16, [.flt .f32 0, .flt .f32 0, .flt .f32 0, .flt .f32 0], none⟩),
(47, ⟨.other, 1, 8, [.nilf], none⟩),
(48, ⟨.struct [(0, 28), (1, 28), (2, 28)], 3, 12, [.flt .f32 0, .flt .f32 0, .flt .f32 0], some .vec⟩),
(49, ⟨.other, 1, 8, [.nilf], none⟩),
(50, ⟨.other, 1, 8, [.nilf], none⟩),
(51, ⟨.other, 1, 8, [.nilf], none⟩)
]
theorem tlOk1 : AllT Try.prog tl1 := ⟨ti26, ti27, ti28, ti29, ti30, ti32, ti33, ti34, ti35, ti36, ti37, ti38, ti39, ti40, ti41, ti42, ti43, ti45, ti46, ti47, ti48, ti49, ti50, ti51, trivial⟩
def tl2 : List (Nat × TI) := [
(52, ⟨.slc 132, 1, 24, [.nils], none⟩),
(54, ⟨.other, 1, 8, [.nilf], none⟩),
(55, ⟨.other, 1, 8, [.nilf], none⟩),
(56, ⟨.other, 1, 8, [.nilf], none⟩),
(57, ⟨.other, 1, 8, [.nilf], none⟩),
(58, ⟨.slc 4, 1, 24, [.nils], none⟩),
(60, ⟨.other, 1, 8, [.nilf], none⟩),
(61, ⟨.other, 1, 8, [.nilf], none⟩),
(62, ⟨.other, 1, 8, [.nilf], none⟩),
(63, ⟨.other, 1, 8, [.nilf], none⟩),
(64, ⟨.other, 1, 8, [.nilf], none⟩),
(65, ⟨.other, 1, 8, [.nilf], none⟩),
(66, ⟨.slc 143, 1, 24, [.nils], none⟩),
(67, ⟨.other, 1, 8, [.nilf], none⟩),
(68, ⟨.other, 1, 8, [.nilf], none⟩),
(69, ⟨.other, 1, 8, [.nilf], none⟩),
(70, ⟨.other, 1, 8, [.nilf], none⟩),
(71, ⟨.other, 1, 8, [.nilf], none⟩),
(72, ⟨.other, 1, 8, [.nilf], none⟩),
(74, ⟨.other, 1, 8, [.nilf], none⟩),
(76, ⟨.other, 1, 8, [.nilf], none⟩),
(77, ⟨.other, 1, 8, [.nilf], none⟩),
(78, ⟨.slc 5, 1, 24, [.nils], none⟩),
(79, ⟨.other, 1, 8, [.nilf], none⟩)
]
theorem tlOk2 : AllT Try.prog tl2 := ⟨ti52, ti54, ti55, ti56, ti57, ti58, ti60, ti61, ti62, ti63, ti64, ti65, ti66, ti67, ti68, ti69, ti70, ti71, ti72, ti74, ti76, ti77, ti78, ti79, trivial⟩
def tl3 : List (Nat × TI) := [
(80, ⟨.other, 1, 8, [.nilf], none⟩),
(81, ⟨.other, 1, 8, [.nilf], none⟩),
(82, ⟨.other, 1, 8, [.nilf], none⟩),
(83, ⟨.other, 1, 8, [.nilf], none⟩),
(84, ⟨.struct [(0, 9), (1, 28), (2, 33)], 8, 48, [.str [], .flt .f32 0, .flt .f32 0, .flt .f32 0, .flt .f32 0, .flt .f32 0, .flt .f32 0, .flt .f32 0], none⟩),
(85, ⟨.struct [(0, 9), (1, 28), (2, 33)], 8, 48, [.str [], .flt .f32 0, .flt .f32 0, .flt .f32 0, .flt .f32 0, .flt .f32 0, .flt .f32 0, .flt .f32 0], some .entry⟩),
(86, ⟨.other, 1, 8, [.nilf], none⟩),
(88, ⟨.other, 1, 8, [.nilf], none⟩),
(90, ⟨.other, 1, 8, [.nilf], none⟩),
(91, ⟨.other, 1, 8, [.nilf], none⟩),
(92, ⟨.slc 3, 1, 24, [.nils], none⟩),
(94, ⟨.other, 1, 8, [.nilf], none⟩),
(96, ⟨.other, 1, 8, [.nilf], none⟩),
(97, ⟨.other, 1, 8, [.nilf], none⟩),
(98, ⟨.other, 1, 8, [.nilf], none⟩),
(99, ⟨.other, 1, 8, [.nilf], none⟩),
(101, ⟨.other, 1, 8, [.nilf], none⟩),
(102, ⟨.other, 1, 8, [.nilf], none⟩),
(103, ⟨.other, 1, 8, [.nilf], none⟩),
(104, ⟨.other, 1, 8, [.nilf], none⟩),
(105, ⟨.ptr 33, 1, 8, [.nilp], none⟩),
(106, ⟨.arr 3 36, 3, 24, [.flt .f64 0, .flt .f64 0, .flt .f64 0], none⟩),
(107, ⟨.arr 3 36, 3, 24, [.flt .f64 0, .flt .f64 0, .flt .f64 0], none⟩),
(108, ⟨.other, 1, 8, [.nilf], none⟩)
]
theorem tlOk3 : AllT Try.prog tl3 := ⟨ti80, ti81, ti82, ti83, ti84, ti85, ti86, ti88, ti90, ti91, ti92, ti94, ti96, ti97, ti98, ti99, ti101, ti102, ti103, ti104, ti105, ti106, ti107, ti108, trivial⟩
def tl4 : List (Nat × TI) := [
(109, ⟨.other, 1, 8, [.nilf], none⟩),
(110, ⟨.other, 1, 8, [.nilf], none⟩),
(111, ⟨.other, 1, 8, [.nilf], none⟩),
(112, ⟨.other, 1, 8, [.nilf], none⟩),
(113, ⟨.other, 1, 8, [.nilf], none⟩),
(114, ⟨.other, 1, 8, [.nilf], none⟩),
(115, ⟨.arr 3 36, 3, 24, [.flt .f64 0, .flt .f64 0, .flt .f64 0], none⟩),
(116, ⟨.other, 1, 8, [.nilf], none⟩),
(117, ⟨.other, 1, 8, [.nilf], none⟩),
(118, ⟨.other, 1, 8, [.nilf], none⟩),
(119, ⟨.other, 1, 8, [.nilf], none⟩),
(120, ⟨.other, 1, 8, [.nilf], none⟩),
(121, ⟨.ptr 46, 1, 8, [.nilp], none⟩),
(122, ⟨.other, 1, 8, [.nilf], none⟩),
(123, ⟨.other, 1, 8, [.nilf], none⟩),
(124, ⟨.other, 1, 8, [.nilf], none⟩),
(125, ⟨.other, 1, 8, [.nilf], none⟩),
(126, ⟨.other, 1, 8, [.nilf], none⟩),
(127, ⟨.other, 1, 8, [.nilf], none⟩),
(128, ⟨.other, 1, 8, [.nilf], none⟩),
(129, ⟨.other, 1, 8, [.nilf], none⟩),
(130, ⟨.other, 1, 8, [.nilf], none⟩),
(131, ⟨.struct [(0, 48), (3, 48), (6, 28)], 7, 28, [.flt .f32 0, .flt .f32 0, .flt .f32 0, .flt .f32 0, .flt .f32 0, .flt .f32 0, .flt .f32 0], none⟩),
(132, ⟨.struct [(0, 48), (3, 48), (6, 28)], 7, 28, [.flt .f32 0, .flt .f32 0, .flt .f32 0, .flt .f32 0, .flt .f32 0, .flt .f32 0, .flt .f32 0], some .body⟩)
]
theorem tlOk4 : AllT Try.prog tl4 := ⟨ti109, ti110, ti111, ti112, ti113, ti114, ti115, ti116, ti117, ti118, ti119, ti120, ti121, ti122, ti123, ti124, ti125, ti126, ti127, ti128, ti129, ti130, ti131, ti132, trivial⟩
def tl5 : List (Nat × TI) := [
(133, ⟨.other, 1, 8, [.nilf], none⟩),
(134, ⟨.other, 1, 8, [.nilf], none⟩),
(135, ⟨.other, 1, 8, [.nilf], none⟩),
(136, ⟨.other, 1, 8, [.nilf], none⟩),
(137, ⟨.other, 1, 8, [.nilf], none⟩),
(138, ⟨.other, 1, 8, [.nilf], none⟩),
(139, ⟨.other, 1, 8, [.nilf], none⟩),
(140, ⟨.other, 1, 8, [.nilf], none⟩),
(141, ⟨.other, 1, 8, [.nilf], none⟩),
(142, ⟨.struct [(0, 41), (3, 41), (6, 28)], 7, 28, [.flt .f32 0, .flt .f32 0, .flt .f32 0, .flt .f32 0, .flt .f32 0, .flt .f32 0, .flt .f32 0], none⟩),
(143, ⟨.struct [(0, 41), (3, 41), (6, 28)], 7, 28, [.flt .f32 0, .flt .f32 0, .flt .f32 0, .flt .f32 0, .flt .f32 0, .flt .f32 0, .flt .f32 0], some .body⟩),
(144, ⟨.other, 1, 8, [.nilf], none⟩),
(145, ⟨.other, 1, 8, [.nilf], none⟩),
(146, ⟨.slc 28, 1, 24, [.nils], none⟩),
(147, ⟨.other, 1, 8, [.nilf], none⟩),
(148, ⟨.other, 1, 8, [.nilf], none⟩),
(149, ⟨.other, 1, 8, [.nilf], none⟩),
(151, ⟨.other, 1, 8, [.nilf], none⟩),
(153, ⟨.other, 1, 8, [.nilf], none⟩),
(154, ⟨.other, 1, 8, [.nilf], none⟩),
(155, ⟨.ptr 199, 1, 8, [.nilp], none⟩),
(156, ⟨.other, 1, 8, [.nilf], none⟩),
(157, ⟨.other, 1, 8, [.nilf], none⟩),
(158, ⟨.other, 1, 8, [.nilf], none⟩)
]
theorem tlOk5 : AllT Try.prog tl5 := ⟨ti133, ti134, ti135, ti136, ti137, ti138, ti139, ti140, ti141, ti142, ti143, ti144, ti145, ti146, ti147, ti148, ti149, ti151, ti153, ti154, ti155, ti156, ti157, ti158, trivial⟩
def tl6 : List (Nat × TI) := [
(159, ⟨.slc 9, 1, 24, [.nils], none⟩),
(160, ⟨.other, 1, 8, [.nilf], none⟩),
(161, ⟨.other, 1, 8, [.nilf], none⟩),
(162, ⟨.other, 1, 8, [.nilf], none⟩),
(163, ⟨.other, 1, 8, [.nilf], none⟩),
(164, ⟨.other, 1, 8, [.nilf], none⟩),
(165, ⟨.other, 1, 8, [.nilf], none⟩),
(166, ⟨.other, 1, 8, [.nilf], none⟩),
(167, ⟨.other, 1, 8, [.nilf], none⟩),
(168, ⟨.other, 1, 8, [.nilf], none⟩),
(169, ⟨.ptr 85, 1, 8, [.nilp], none⟩),
(170, ⟨.other, 1, 8, [.nilf], none⟩),
(171, ⟨.int .u32, 1, 4, [.int .u32 0], some (.int .u32)⟩),
(172, ⟨.int .u64, 1, 8, [.int .u64 0], some (.int .u64)⟩),
(173, ⟨.other, 1, 8, [.nilf], none⟩),
(174, ⟨.other, 1, 8, [.nilf], none⟩),
(175, ⟨.other, 1, 8, [.nilf], none⟩),
(176, ⟨.other, 1, 8, [.nilf], none⟩),
(177, ⟨.other, 1, 8, [.nilf], none⟩),
(178, ⟨.other, 1, 8, [.nilf], none⟩),
(179, ⟨.other, 1, 8, [.nilf], none⟩),
(180, ⟨.other, 1, 8, [.nilf], none⟩),
(181, ⟨.other, 1, 8, [.nilf], none⟩),
(182, ⟨.ptr 43, 1, 8, [.nilp], none⟩)
]
theorem tlOk6 : AllT Try.prog tl6 := ⟨ti159, ti160, ti161, ti162, ti163, ti164, ti165, ti166, ti167, ti168, ti169, ti170, ti171, ti172, ti173, ti174, ti175, ti176, ti177, ti178, ti179, ti180, ti181, ti182, trivial⟩
def tl7 : List (Nat × TI) := [
(183, ⟨.other, 1, 8, [.nilf], none⟩),
(184, ⟨.other, 1, 8, [.nilf], none⟩),
(185, ⟨.other, 1, 8, [.nilf], none⟩),
(186, ⟨.other, 1, 8, [.nilf], none⟩),
(187, ⟨.other, 1, 8, [.nilf], none⟩),
(188, ⟨.other, 1, 8, [.nilf], none⟩),
(189, ⟨.other, 1, 8, [.nilf], none⟩),
(190, ⟨.slc 48, 1, 24, [.nils], none⟩),
(192, ⟨.other, 1, 8, [.nilf], none⟩),
(193, ⟨.other, 1, 8, [.nilf], none⟩),
(194, ⟨.other, 1, 8, [.nilf], none⟩),
(196, ⟨.other, 1, 8, [.nilf], none⟩),
(197, ⟨.int .u64, 1, 8, [.int .u64 0], some (.int .u64)⟩),
(198, ⟨.struct [(0, 78), (1, 3), (2, 197)], 3, 40, [.nils, .int .i64 0, .int .u64 0], none⟩),
(199, ⟨.struct [(0, 78), (1, 3), (2, 197)], 3, 40, [.nils, .int .i64 0, .int .u64 0], none⟩),
(200, ⟨.other, 1, 8, [.nilf], none⟩),
(201, ⟨.slc 22, 1, 24, [.nils], none⟩),
(202, ⟨.other, 1, 8, [.nilf], none⟩),
(203, ⟨.other, 1, 8, [.nilf], none⟩),
(204, ⟨.other, 1, 8, [.nilf], none⟩),
(205, ⟨.other, 1, 8, [.nilf], none⟩),
(206, ⟨.other, 1, 8, [.nilf], none⟩),
(207, ⟨.other, 1, 8, [.nilf], none⟩),
(208, ⟨.other, 1, 8, [.nilf], none⟩)
]
theorem tlOk7 : AllT Try.prog tl7 := ⟨ti183, ti184, ti185, ti186, ti187, ti188, ti189, ti190, ti192, ti193, ti194, ti196, ti197, ti198, ti199, ti200, ti201, ti202, ti203, ti204, ti205, ti206, ti207, ti208, trivial⟩
def tl8 : List (Nat × TI) := [
(209, ⟨.other, 1, 8, [.nilf], none⟩),
(210, ⟨.other, 1, 8, [.nilf], none⟩),
(211, ⟨.other, 1, 8, [.nilf], none⟩),
(212, ⟨.ptr 132, 1, 8, [.nilp], none⟩),
(214, ⟨.other, 1, 8, [.nilf], none⟩),
(215, ⟨.other, 1, 8, [.nilf], none⟩),
(216, ⟨.other, 1, 8, [.nilf], none⟩),
(217, ⟨.other, 1, 8, [.nilf], none⟩),
(218, ⟨.other, 1, 8, [.nilf], none⟩),
(219, ⟨.other, 1, 8, [.nilf], none⟩),
(220, ⟨.other, 1, 8, [.nilf], none⟩),
(221, ⟨.other, 1, 8, [.nilf], none⟩),
(223, ⟨.other, 1, 8, [.nilf], none⟩),
(224, ⟨.other, 1, 8, [.nilf], none⟩),
(225, ⟨.other, 1, 8, [.nilf], none⟩),
(226, ⟨.struct [(0, 17), (1, 17), (2, 17), (3, 9)], 4, 40, [.nilp, .nilp, .nilp, .str []], none⟩),
(227, ⟨.struct [(0, 17), (1, 17), (2, 17), (3, 9)], 4, 40, [.nilp, .nilp, .nilp, .str []], none⟩),
(228, ⟨.arr 0 16, 0, 0, [], none⟩),
(229, ⟨.struct [(0, 228)], 0, 0, [], none⟩),
(230, ⟨.struct [(0, 228)], 0, 0, [], none⟩),
(231, ⟨.other, 1, 8, [.nilf], none⟩),
(232, ⟨.int .u8, 1, 1, [.int .u8 0], some (.int .u8)⟩),
(233, ⟨.int .u8, 1, 1, [.int .u8 0], some (.int .u8)⟩),
(234, ⟨.other, 1, 8, [.nilf], none⟩)
]
theorem tlOk8 : AllT Try.prog tl8 := ⟨ti209, ti210, ti211, ti212, ti214, ti215, ti216, ti217, ti218, ti219, ti220, ti221, ti223, ti224, ti225, ti226, ti227, ti228, ti229, ti230, ti231, ti232, ti233, ti234, trivial⟩
def tl9 : List (Nat × TI) := [
(235, ⟨.ptr 5, 1, 8, [.nilp], none⟩),
(236, ⟨.int .i32, 1, 4, [.int .i32 0], some (.int .i32)⟩),
(237, ⟨.int .i32, 1, 4, [.int .i32 0], some (.int .i32)⟩),
(238, ⟨.struct [(0, 12), (1, 12), (2, 171), (3, 232), (4, 5), (5, 5), (6, 233), (7, 234), (8, 235), (9, 236), (10, 237)], 11, 48, [.int .u64 0, .int .u64 0, .int .u32 0, .int .u8 0, .int .u8 0, .int .u8 0, .int .u8 0, .nilf, .nilp, .int .i32 0, .int .i32 0], none⟩),
(239, ⟨.struct [(0, 12), (1, 12), (2, 171), (3, 232), (4, 5), (5, 5), (6, 233), (7, 234), (8, 235), (9, 236), (10, 237)], 11, 48, [.int .u64 0, .int .u64 0, .int .u32 0, .int .u8 0, .int .u8 0, .int .u8 0, .int .u8 0, .nilf, .nilp, .int .i32 0, .int .i32 0], none⟩),
(240, ⟨.other, 1, 8, [.nilp], none⟩)
]
theorem tlOk9 : AllT Try.prog tl9 := ⟨ti235, ti236, ti237, ti238, ti239, ti240, trivial⟩
def tab : TT := tget2 [tl0, tl1, tl2, tl3, tl4, tl5, tl6, tl7, tl8, tl9]
theorem tab_ok : TTOK Try.prog tab := tget2_ok _ ⟨tlOk0, tlOk1, tlOk2, tlOk3, tlOk4, tlOk5, tlOk6, tlOk7, tlOk8, tlOk9, trivial⟩
end Go.Proofs.Ytodhhjcgjkfmpaa
