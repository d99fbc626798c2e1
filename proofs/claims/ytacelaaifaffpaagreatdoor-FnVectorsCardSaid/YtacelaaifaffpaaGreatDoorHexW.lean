/- The walk of strconv.FormatInt at base sixteen: a number's hexadecimal digits. -/
import Derived.Test.YtacelaaifaffpaaGreatDoorHex
import Derived.Test.YtacelaaifaffpaaGreatDoorProg
import Derived.Lib.Walk
import Derived.Lib.ItoaWalk
import Derived.Lib.ItoaMem
import Derived.Lib.Strings
import Derived.Lib.Hide
import Derived.WalkKit
import Derived.RegionTactic
import Derived.BigCall
import Derived.BigGuard
import Derived.Laws.Bits64b
namespace Go.Proofs.YtacelaaifaffpaaGreatDoor
open Go.RowKit
set_option linter.unusedVariables false
set_option linter.unusedSimpArgs false

set_option maxRecDepth 100000 in
theorem pow2_16 (w : World) : Calls Tryz.prog 89 #[.int .i64 16] w fun e w' => e = .returned (.bool true) ∧ w' = w := by
  go_enter Tryz.func89, Tryz.ntmps89
  go_wp2
  go_ret
  exact ⟨rfl, rfl⟩

set_option maxRecDepth 100000 in
theorem tz_16 (w : World) (hc : w.cell? ⟨6, 15, none⟩ = some (.int .u8 4)) : Calls Tryz.prog 101 #[.int .u64 16] w fun e w' => e = .returned (.int .i64 4) ∧ w' = w := by
  have key : IntKind.u64.wrap (bits BinOp.and IntKind.u64 16 (IntKind.u64.wrap (-16)) * 285870213051353865) / 288230376151711744 = ((15 : Nat) : Int) := by decide +kernel
  go_enter Tryz.func101, Tryz.ntmps101
  go_wp2_with (simp only [key])
  go_ret
  exact ⟨rfl, rfl⟩

set_option maxRecDepth 100000 in
theorem tzs_16 (w : World) (hc : w.cell? ⟨6, 15, none⟩ = some (.int .u8 4)) : Calls Tryz.prog 90 #[.int .u64 16] w fun e w' => e = .returned (.int .i64 4) ∧ w' = w := by
  go_enter Tryz.func90, Tryz.ntmps90
  go_wp2_with (go_at_call 101; refine (tz_16 _ hc).mono ?_; rintro e w' ⟨rfl, rfl⟩)
  go_ret
  exact ⟨rfl, rfl⟩

/-! ## The digits -/

def digits36 : ByteArray := ⟨#[48, 49, 50, 51, 52, 53, 54, 55, 56, 57, 97, 98, 99, 100, 101, 102, 103, 104, 105, 106, 107, 108, 109, 110, 111, 112, 113, 114, 115, 116, 117, 118, 119, 120, 121, 122]⟩

def hexCells (k u : Nat) : Array Value := (List.replicate (65 - k) (Value.int .u8 0) ++ (hexTail k u).map fun b : UInt8 => Value.int .u8 (b.toNat : Int)).toArray

theorem hexCells_size {k u : Nat} (h : k ≤ 65) : (hexCells k u).size = 65 := by
  simp [hexCells, hexTail_length]; omega

theorem hexCells_get {k u : Nat} (h : k < 65) : (hexCells k u)[64 - k]? = some (.int .u8 0) := by
  unfold hexCells
  rw [List.getElem?_toArray, List.getElem?_append_left (by simp; omega), List.getElem?_replicate, if_pos (by omega)]

theorem hexCells_set {k u : Nat} (h : k < 65) : (hexCells k u).setIfInBounds (64 - k) (.int .u8 ((hexD (u / 16 ^ k % 16)).toNat : Int)) = hexCells (k + 1) u := by
  unfold hexCells
  rw [List.setIfInBounds_toArray]
  congr 1
  rw [List.set_append_left _ _ (by simp; omega)]
  obtain ⟨m, hm⟩ : ∃ m, 65 - k = m + 1 := ⟨64 - k, by omega⟩
  have e1 : 64 - k = m := by omega
  have e2 : 65 - (k + 1) = m := by omega
  rw [hm, e1, e2, hexTail, List.map_cons]
  have : (List.replicate (m + 1) (Value.int .u8 0)).set m (.int .u8 ((hexD (u / 16 ^ k % 16)).toNat : Int)) = List.replicate m (Value.int .u8 0) ++ [.int .u8 ((hexD (u / 16 ^ k % 16)).toNat : Int)] := by
    rw [List.replicate_succ', List.set_append_right _ _ (by simp)]
    simp
  rw [this, List.append_assoc]
  rfl

theorem hexCells_zero (u : Nat) : hexCells 0 u = (List.replicate 65 (Value.int .u8 0)).toArray := by simp [hexCells, hexTail]

theorem dg_index (k : IntKind) (d : Nat) (hd : d < 16) (w : World) : (Instr.index 9 (.string digits36) (.int k (d : Int))).run Tryz.prog w = .ok (.int .u8 ((hexD d).toNat : Int)) w := by
  rw [run_index_string w 9 digits36 k _ Tryz.underlying9, dif_pos ⟨by omega, by have : digits36.size = 36 := rfl; omega⟩]
  have e : ((d : Int)).toNat = d := by omega
  simp only [e]
  have : ∀ d (h : d < 16), digits36[d]'(by have : digits36.size = 36 := rfl; omega) = hexD d := by
    intro d h
    have : d = 0 ∨ d = 1 ∨ d = 2 ∨ d = 3 ∨ d = 4 ∨ d = 5 ∨ d = 6 ∨ d = 7 ∨ d = 8 ∨ d = 9 ∨ d = 10 ∨ d = 11 ∨ d = 12 ∨ d = 13 ∨ d = 14 ∨ d = 15 := by omega
    rcases this with rfl | rfl | rfl | rfl | rfl | rfl | rfl | rfl | rfl | rfl | rfl | rfl | rfl | rfl | rfl | rfl <;> rfl
  rw [this d hd]

theorem and_15 (q : Nat) (hq : q < 18446744073709551616) : bits BinOp.and IntKind.u64 (q : Int) 15 = ((q % 16 : Nat) : Int) := by
  rw [show (15 : Int) = ((15 : Nat) : Int) from rfl, bits_and_u64_nat q 15 hq (by decide), show (15 : Nat) = 2 ^ 4 - 1 from rfl, Nat.and_two_pow_sub_one_eq_mod]

set_option maxHeartbeats 4000000 in
set_option maxRecDepth 100000 in
theorem formatBits_16 (u : Nat) (hu : u < 18446744073709551616) (w : World) (hc : w.cell? ⟨6, 15, none⟩ = some (.int .u8 4)) :
    Calls Tryz.prog 71 #[.slice none 0 0, .int .u64 u, .int .i64 16, .bool false, .bool false] w fun e w' => e = .returned (.tuple #[.slice none 0 0, .string ⟨(hexText u).toArray⟩]) ∧ Below w.heap.size w w' := by
  have hlt : 6 < w.heap.size := World.block_lt_of_cell? w _ hc
  go_enter Tryz.func71, Tryz.ntmps71
  go_name_bytes_deep 40 SM hSM
  clear hSM
  go_name_bytes DG hDG
  have eDG : DG = digits36 := by rw [← hDG]; decide +kernel
  subst eDG
  clear hDG
  have HZ := Lib.hid (hexCells_zero u)
  go_wp2_with (first
    | (go_at_call 89; refine (pow2_16 _).mono ?_; rintro e w' ⟨rfl, rfl⟩)
    | (go_at_call 90; refine (tzs_16 _ (by rw [World.cell?_alloc_lt _ _ _ hlt]; exact hc)).mono ?_; rintro e w' ⟨rfl, rfl⟩))
  go_loopw [1, 13] (fun vu vi wr => ∃ k m : Nat, m + k = 65 ∧ k ≤ 15 ∧ vu = .int .u64 ((u / 16 ^ k : Nat) : Int) ∧ vi = .int .i64 m ∧ wr = w.alloc (.cells (hexCells k u) 121) ∧ Hid (hexLen u = hexLen (u / 16 ^ k) + k)) (fun vu _ _ => (intOf vu).toNat)
  case atStart => exact ⟨0, 65, rfl, by omega, by simp, rfl, by rw [HZ.out]; rfl, by simp [Hid]⟩
  case round =>
    obtain ⟨k, m, hmk, hk, rfl, rfl, rfl, HL⟩ := hrel
    have hq64 : u / 16 ^ k < 18446744073709551616 := Nat.lt_of_le_of_lt (Nat.div_le_self _ _) hu
    have hnext : u / 16 ^ (k + 1) = u / 16 ^ k / 16 := by rw [Nat.div_div_eq_div_mul, Nat.pow_succ]
    have hset := hexCells_set (k := k) (u := u) (by omega)
    have hget := hexCells_get (k := k) (u := u) (by omega)
    have hsz := hexCells_size (k := k) (u := u) (by omega)
    have hstep := fun hb => hexLen_step HL.out (k := k) hb
    have hend := fun hb => hexLen_end HL.out (k := k) hb
    obtain ⟨j, rfl⟩ : ∃ j, m = j + 1 := ⟨m - 1, by omega⟩
    have e64 : 64 - k = j := by omega
    rw [e64] at hset hget
    have hk16 : ¬ u / 16 ^ k < 16 → k + 1 ≤ 15 := fun hb => by
      have h1 : 16 ^ (k + 1) ≤ u := by
        have := Nat.div_mul_le_self u (16 ^ k)
        have h2 : 16 * 16 ^ k ≤ u / 16 ^ k * 16 ^ k := Nat.mul_le_mul_right _ (by omega)
        rw [Nat.pow_succ, Nat.mul_comm]
        omega
      rcases Nat.lt_or_ge (k + 1) 16 with h | h
      · omega
      · have : 16 ^ 16 ≤ 16 ^ (k + 1) := Nat.pow_le_pow_right (by decide) h
        have : (16 : Nat) ^ 16 = 18446744073709551616 := by decide
        omega
    have HS := Lib.hid (And.intro hset (And.intro hstep (And.intro hend (And.intro hk16 hnext))))
    clear hset hstep hend hk16 HL HZ
    generalize hC : hexCells k u = C at HS hget hsz ⊢
    clear hC
    generalize hQ : u / 16 ^ k = q at HS hq64 ⊢
    have HQ := Lib.hid hQ
    have HN := Lib.hid hnext
    clear hnext hQ
    have hfr : (w.alloc (.cells C 121)).frozen? ⟨w.heap.size, j, none⟩ = false := World.frozen?_alloc_new _ _ _ _
    have hcl : (w.alloc (.cells C 121)).cell? ⟨w.heap.size, j, none⟩ = some (.int .u8 0) := by rw [World.cell?_alloc_new]; exact hget
    by_cases hb : q < 16
    · have hidx := dg_index .u64 q hb
      have hal : Tryz.prog.arrayLen 121 = 65 := by simp [Program.arrayLen, Tryz.underlying121]
      have hsl : ∀ W, (Instr.sliceAt 121 (.pointer (some ⟨w.heap.size, 0, none⟩)) (some (.int .i64 (j : Int))) none none).run Tryz.prog W = .ok (.slice (some ⟨w.heap.size, j, none⟩) (k + 1) (k + 1)) W := fun W => by
        rw [run_sliceAt_array_l W 121 ⟨w.heap.size, 0, none⟩ (by simp [Program.arrayLen, Program.elem, Tryz.underlying121]) .i64 (j : Int) (by omega) (by rw [hal]; omega)]
        have e1 : Tryz.prog.arrayLen 121 - ((j : Int)).toNat = k + 1 := by rw [hal]; omega
        go_simp
        omega
      have hend := HS.out.2.2.1 hb
      have hcv : (convert 22 9 (.slice (some ⟨w.heap.size, j, none⟩) (k + 1) (k + 1))).run Tryz.prog (w.alloc (.cells (C.setIfInBounds j (.int .u8 ((hexD q).toNat : Int))) 121)) = .ok (.string ⟨(hexText u).toArray⟩) (w.alloc (.cells (C.setIfInBounds j (.int .u8 ((hexD q).toNat : Int))) 121)) := by
        have hD : C.setIfInBounds j (.int .u8 ((hexD q).toNat : Int)) = hexCells (k + 1) u := by
          have := HS.out.1
          rwa [Nat.mod_eq_of_lt hb] at this
        have hl : (hexText u).length = k + 1 := by rw [hexText_length, hend]
        have h := run_convert_bytes_back (P := Tryz.prog) (w.alloc (.cells (hexCells (k + 1) u) 121)) 22 9 5 ⟨w.heap.size, j, none⟩ (k + 1) (hexText u) Tryz.underlying22 Tryz.underlying5 Tryz.underlying9 (fun i hi => by
          rw [Lib.add_plain, World.cell?_alloc_new]
          unfold hexCells
          rw [List.getElem?_toArray, List.getElem?_append_right (by simp; omega), List.getElem?_map]
          have e : j + i - (List.replicate (65 - (k + 1)) (Value.int .u8 0)).length = i := by simp; omega
          rw [e]
          have e2 : hexTail (k + 1) u = hexText u := by unfold hexText; rw [hend]
          rw [e2, List.getElem?_eq_getElem hi]
          rfl)
        rw [hl] at h
        rw [hD]
        exact h
      have HE := Lib.hid hend
      clear hend hal
      go_wp2
      go_ret2
      exact ⟨rfl, (Below.refl _ _).alloc (Nat.le_refl _) _⟩
    · have hand : bits BinOp.and IntKind.u64 (q : Int) 15 = (q : Int) % 16 := and_15 q hq64
      have hidx : ∀ w, (Instr.index 9 (.string digits36) (.int .u64 ((q : Int) % 16))).run Tryz.prog w = .ok (.int .u8 ((hexD (q % 16)).toNat : Int)) w := dg_index .u64 (q % 16) (Nat.mod_lt _ (by decide))
      go_wp2
      refine ⟨⟨k + 1, j, by omega, HS.out.2.2.2.1 hb, ?_, rfl, ?_, HS.out.2.1 hb⟩, ?_⟩
      · rw [HN.out, HQ.out]; rfl
      · rw [← HS.out.1]
      · simp [intOf]; omega

set_option maxRecDepth 100000 in
theorem inner_FormatInt_16 (u : Nat) (hu : u < 9223372036854775808) (w : World) (hc : w.cell? ⟨6, 15, none⟩ = some (.int .u8 4)) :
    Calls Tryz.prog 57 #[.int .i64 u, .int .i64 16] w fun e w' => e = .returned (.string ⟨(hexText u).toArray⟩) ∧ Below w.heap.size w w' := by
  go_enter Tryz.func57, Tryz.ntmps57
  go_wp2_with (go_at_call 71; refine (formatBits_16 u (by omega) _ hc).mono ?_; rintro e w' ⟨rfl, hB⟩)
  go_ret
  exact ⟨rfl, hB⟩

set_option maxRecDepth 100000 in
theorem FormatInt_16 (u : Nat) (hu : u < 9223372036854775808) (w : World) (hc : w.cell? ⟨6, 15, none⟩ = some (.int .u8 4)) :
    Calls Tryz.prog 49 #[.int .i64 u, .int .i64 16] w fun e w' => e = .returned (.string ⟨(hexText u).toArray⟩) ∧ Below w.heap.size w w' := by
  go_enter Tryz.func49, Tryz.ntmps49
  go_wp2_with (go_at_call 57; refine (inner_FormatInt_16 u hu _ hc).mono ?_; rintro e w' ⟨rfl, hB⟩)
  go_ret
  exact ⟨rfl, hB⟩

end Go.Proofs.YtacelaaifaffpaaGreatDoor
