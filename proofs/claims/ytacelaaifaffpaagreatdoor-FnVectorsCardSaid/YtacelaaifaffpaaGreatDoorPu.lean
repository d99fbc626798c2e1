/- Eight hexadecimal digits read: strconv.ParseUint at base 16 and 32 bits, walked. -/
import Derived.Test.YtacelaaifaffpaaGreatDoorProg
import Derived.Test.YtacelaaifaffpaaGreatDoorShelfPu
import Derived.Shelf.Pu.ToError
import Derived.Shelf.Pu.ToErrorRange
import Derived.Lib.Strings
import Derived.Lib.Walk
import Derived.Lib.ConvBytes
import Derived.Lib.ParseIntBMem
import Derived.Lib.AtoiErrMem
import Derived.Lib.Hide
import Derived.Laws.Strings3
import Derived.Laws.Closers25
import Derived.Laws.Closers25b
import Derived.WalkKit
import Derived.BigCall
import Derived.BigGuard
namespace Go.Proofs.YtacelaaifaffpaaGreatDoor
open Go.RowKit
set_option linter.unusedVariables false
set_option linter.unusedSimpArgs false

/-! ## What is read -/

/-- The value of a hexadecimal digit. -/
def hexV (c : UInt8) : Option Nat :=
  if 48 ≤ c.toNat ∧ c.toNat ≤ 57 then some (c.toNat - 48) else
  if 97 ≤ c.toNat ||| 32 ∧ c.toNat ||| 32 ≤ 102 then some ((c.toNat ||| 32) - 87) else none

inductive P16 where
  | ok (n : Nat) | syn | rng

def parse16 : Nat → List UInt8 → P16
  | acc, [] => .ok acc
  | acc, c :: r => match hexV c with
    | none => .syn
    | some d => if 4294967295 < acc * 16 + d then .rng else parse16 (acc * 16 + d) r

def tup16 : P16 → Value
  | .ok n => .tuple #[.int .u64 (n : Int), .nilIface]
  | .syn => .tuple #[.int .u64 0, .iface 112 (.int .i64 2)]
  | .rng => .tuple #[.int .u64 4294967295, .iface 112 (.int .i64 1)]

theorem or_32 (c : Nat) (hc : c < 256) : bits BinOp.or IntKind.u8 (c : Int) 32 = ((c ||| 32 : Nat) : Int) := by
  have h : ∀ c : Fin 256, bits BinOp.or IntKind.u8 ((c.val : Nat) : Int) 32 = ((c.val ||| 32 : Nat) : Int) := by decide +kernel
  exact h ⟨c, hc⟩

theorem letter_at (c : Nat) (hc : c < 256) (h0 : 97 ≤ c ||| 32) (h1 : c ||| 32 ≤ 102) : 65 ≤ c ∧ c ≠ 95 := by
  have h : ∀ c : Fin 256, 97 ≤ c.val ||| 32 → c.val ||| 32 ≤ 102 → 65 ≤ c.val ∧ c.val ≠ 95 := by decide +kernel
  exact h ⟨c, hc⟩ h0 h1

set_option maxRecDepth 100000 in
theorem lower_w (c : Int) (w : World) : Calls Tryz.prog 80 #[.int .u8 c] w fun e w' => e = .returned (.int .u8 (bits .or .u8 c 32)) ∧ w' = w := by
  go_enter Tryz.func80, Tryz.ntmps80
  go_wp2
  go_ret
  exact ⟨rfl, rfl⟩

set_option maxHeartbeats 32000000 in
set_option maxRecDepth 100000 in
theorem inner_parse16 (t : ByteArray) (hne : t.size ≠ 0) (hmax : t.size ≤ 9223372036854775806) (w : World) :
    Calls Tryz.prog 65 #[.string t, .int .i64 16, .int .i64 32] w fun e w' => e = .returned (tup16 (parse16 0 t.data.toList)) ∧ w' = Lib.bytesWorld w 5 t := by
  have hemp : t.toList.isEmpty = false := by
    rw [← decide_eq_emptyBytes]
    exact decide_eq_false (fun h => hne (by rw [h]; rfl))
  have hcv := Lib.run_convert_string_bytes (P := Tryz.prog) w 9 22 5 t (u := .string) Tryz.underlying9 Tryz.underlying22 Tryz.underlying5
  have hB : ∀ j, j < t.size → (Lib.bytesWorld w 5 t).cell? ⟨w.heap.size, j, none⟩ = some (.int .u8 (t.data.toList.getD j 0).toNat) := fun j hj => Lib.bytesWorld_cell w 5 t j hj
  obtain ⟨W1, hW1⟩ : ∃ W1, W1 = Lib.bytesWorld w 5 t := ⟨_, rfl⟩
  rw [← hW1] at hcv hB ⊢
  clear hW1
  obtain ⟨bs, hL⟩ : ∃ bs, bs = t.data.toList := ⟨_, rfl⟩
  have hLn : bs.length = t.size := by rw [hL, Lib.size_eq]
  rw [← hL] at hB ⊢
  clear hL
  have hmv : IntKind.u64.wrap (IntKind.u64.wrap 4294967296 - 1) = 4294967295 := by
    rw [IntKind.wrap_u64, IntKind.wrap_u64]
    decide
  go_enter Tryz.func65, Tryz.ntmps65
  go_wp2
  go_loop [12, 13, 101] (fun vu vn vi => ∃ (k acc : Nat) (a : Int), vu = .bool false ∧ vn = .int .u64 a ∧ vi = .int .i64 k ∧ k ≤ t.size ∧ Hid (a = (acc : Int) ∧ acc ≤ 4294967295 ∧ parse16 0 bs = parse16 acc (bs.drop k)))
    (fun _ _ vi => t.size - (intOf vi).toNat)
  case atStart => exact ⟨0, 0, 0, rfl, rfl, rfl, by omega, rfl, by omega, rfl⟩
  case round =>
    obtain ⟨k, acc, a, rfl, rfl, rfl, hk, hh⟩ := hrel
    obtain ⟨ha, hacc, hdec⟩ := hh.out
    clear hh
    have a0 : 0 ≤ a := by omega
    have a1 : a ≤ 4294967295 := by omega
    by_cases hkn : k < t.size
    · have hc := hB k hkn
      have hdrop : bs.drop k = bs[k]'(by omega) :: bs.drop (k + 1) := List.drop_eq_getElem_cons (by omega)
      have hget : bs.getD k 0 = bs[k]'(by omega) := by simp [List.getD, List.getElem?_eq_getElem (show k < bs.length by omega)]
      rw [hdrop] at hdec
      rw [hget] at hc
      generalize bs[k]'(by omega) = c at hc hdec
      have hc256 : c.toNat < 256 := c.toNat_lt
      clear hB hdrop hget
      by_cases hdig : 48 ≤ c.toNat ∧ c.toNat ≤ 57
      · have hv : hexV c = some (c.toNat - 48) := by unfold hexV; rw [if_pos hdig]
        obtain ⟨hd0, hd1⟩ := hdig
        have hcut : ¬ 1152921504606846976 ≤ acc := by omega
        by_cases hov : 4294967295 < acc * 16 + (c.toNat - 48)
        · have hF : parse16 acc (c :: bs.drop (k + 1)) = .rng := by unfold parse16; rw [hv]; exact if_pos hov
          rw [hF] at hdec
          have iov : 4294967295 < a * 16 + ((c.toNat : Int) - 48) := by omega
          have HD := Lib.hid hdec
          clear hcut hacc hF hov ha hv hdec
          go_wp2
          go_ret2
          exact ⟨by rw [HD.out]; rfl, rfl⟩
        · have hF : parse16 acc (c :: bs.drop (k + 1)) = parse16 (acc * 16 + (c.toNat - 48)) (bs.drop (k + 1)) := by
            show (match hexV c with | none => _ | some d => _) = _
            rw [hv]; exact if_neg hov
          have HN : Hid (a * 16 + ((c.toNat : Int) - 48) = ((acc * 16 + (c.toNat - 48) : Nat) : Int) ∧ acc * 16 + (c.toNat - 48) ≤ 4294967295 ∧ parse16 0 bs = parse16 (acc * 16 + (c.toNat - 48)) (bs.drop (k + 1))) := Lib.hid ⟨by omega, by omega, hdec.trans hF⟩
          have iov : a * 16 + ((c.toNat : Int) - 48) ≤ 4294967295 := by omega
          clear hcut hacc hF hov hdec ha hv
          go_wp2
          refine ⟨⟨k + 1, acc * 16 + (c.toNat - 48), a * 16 + ((c.toNat : Int) - 48), rfl, (by first | rfl | (congr 1; omega)), (by first | rfl | (congr 1; omega)), by omega, HN⟩, by simp [intOf]; omega⟩
      · have hor := or_32 c.toNat hc256
        by_cases hlet : 97 ≤ c.toNat ||| 32 ∧ c.toNat ||| 32 ≤ 102
        · have hv : hexV c = some ((c.toNat ||| 32) - 87) := by unfold hexV; rw [if_neg hdig, if_pos hlet]
          obtain ⟨h65, h95n⟩ := letter_at c.toNat hc256 hlet.1 hlet.2
          have h95 : ((c.toNat : Int) == 95) = false := by rw [beq_eq_false_iff_ne]; omega
          clear h95n
          generalize hL : c.toNat ||| 32 = L at hor hlet hv
          obtain ⟨hl0, hl1⟩ := hlet
          have hcut : ¬ 1152921504606846976 ≤ acc := by omega
          by_cases hov : 4294967295 < acc * 16 + (L - 87)
          · have hF : parse16 acc (c :: bs.drop (k + 1)) = .rng := by unfold parse16; rw [hv]; exact if_pos hov
            rw [hF] at hdec
            have iov : 4294967295 < a * 16 + ((L : Int) - 97 + 10) := by omega
            have HD := Lib.hid hdec
            have HL := Lib.hid hL
            clear hcut hacc hF hov ha hv hdec hL
            go_wp2_with (go_at_call 80; refine (lower_w _ _).mono ?_; rintro e w' ⟨rfl, rfl⟩; simp only [hor])
            all_goals go_ret2
            all_goals exact ⟨by rw [HD.out]; rfl, rfl⟩
          · have hF : parse16 acc (c :: bs.drop (k + 1)) = parse16 (acc * 16 + (L - 87)) (bs.drop (k + 1)) := by
              show (match hexV c with | none => _ | some d => _) = _
              rw [hv]; exact if_neg hov
            have HN : Hid (a * 16 + ((L : Int) - 97 + 10) = ((acc * 16 + (L - 87) : Nat) : Int) ∧ acc * 16 + (L - 87) ≤ 4294967295 ∧ parse16 0 bs = parse16 (acc * 16 + (L - 87)) (bs.drop (k + 1))) := Lib.hid ⟨by omega, by omega, hdec.trans hF⟩
            have iov : a * 16 + ((L : Int) - 97 + 10) ≤ 4294967295 := by omega
            have HL := Lib.hid hL
            clear hcut hacc hF hov hdec ha hv hL
            go_wp2_with (go_at_call 80; refine (lower_w _ _).mono ?_; rintro e w' ⟨rfl, rfl⟩; simp only [hor])
            refine ⟨⟨k + 1, acc * 16 + (L - 87), a * 16 + ((L : Int) - 97 + 10), rfl, (by first | rfl | (congr 1; omega)), (by first | rfl | (congr 1; omega)), by omega, HN⟩, by simp [intOf]; omega⟩
        · have hF : parse16 acc (c :: bs.drop (k + 1)) = .syn := by
            show (match hexV c with | none => _ | some d => _) = _
            have hv : hexV c = none := by unfold hexV; rw [if_neg hdig, if_neg hlet]
            rw [hv]
          rw [hF] at hdec
          have HD := Lib.hid hdec
          clear hacc hF ha hdec
          generalize hL : c.toNat ||| 32 = L at hor hlet
          have hL256 : L < 256 := by rw [← hL]; exact Nat.or_lt_two_pow (n := 8) hc256 (by decide)
          have HL := Lib.hid hL
          clear hL
          go_wp2_with (go_at_call 80; refine (lower_w _ _).mono ?_; rintro e w' ⟨rfl, rfl⟩; simp only [hor])
          all_goals go_ret2
          all_goals exact ⟨by rw [HD.out]; rfl, rfl⟩
    · have hkk : k = t.size := by omega
      subst hkk
      have hF : parse16 acc (bs.drop t.size) = .ok acc := by rw [List.drop_eq_nil_of_le (by omega)]; rfl
      rw [hF] at hdec
      subst ha
      have HD := Lib.hid hdec
      clear hacc hF a0 a1 hdec
      go_wp2
      go_ret2
      exact ⟨by rw [HD.out]; rfl, rfl⟩

set_option maxRecDepth 100000 in
theorem inner_parse16_none (w : World) : Calls Tryz.prog 65 #[.string ⟨#[]⟩, .int .i64 16, .int .i64 32] w fun e w' => e = .returned (tup16 .syn) ∧ w' = w := by
  go_enter Tryz.func65, Tryz.ntmps65
  go_wp2
  go_ret2
  exact ⟨rfl, rfl⟩

/-- A text read at base sixteen. -/
def parseS (l : List UInt8) : P16 := match l with
  | [] => .syn
  | l => parse16 0 l

theorem inner_parseS (t : ByteArray) (hmax : t.size ≤ 9223372036854775806) (w : World) :
    Calls Tryz.prog 65 #[.string t, .int .i64 16, .int .i64 32] w fun e w' => e = .returned (tup16 (parseS t.data.toList)) ∧ Below w.heap.size w w' := by
  by_cases h : t.size = 0
  · have e : t = ⟨#[]⟩ := by
      obtain ⟨a⟩ := t
      have : a = #[] := Array.eq_empty_of_size_eq_zero h
      rw [this]
    rw [e]
    exact (inner_parse16_none w).mono fun e w' ⟨he, hw⟩ => ⟨he, hw ▸ Below.refl _ _⟩
  · refine (inner_parse16 t h hmax w).mono fun e w' ⟨he, hw⟩ => ⟨?_, hw ▸ Lib.bytesWorld_below _ _ _⟩
    rw [he]
    have hl : t.data.toList ≠ [] := fun e => h (by rw [Lib.size_eq, e]; rfl)
    unfold parseS
    split
    · rename_i e; exact absurd e hl
    · rfl

theorem toErr_syn (fn s : ByteArray) (base bts : Int) (ev : Value) (w : World) (hlim : s.size ≤ 281474976710656) (hv : w.cell? ⟨2, 0, none⟩ = some ev) (hev : ev = .nilIface ∨ ∃ te pe, ev = .iface te pe) :
    Calls Tryz.prog 66 #[.string fn, .string s, .int .i64 base, .int .i64 bts, .iface 112 (.int .i64 2)] w fun e w' => ∃ N, e = .returned (.iface 115 (.pointer (some ⟨N, 0, none⟩))) ∧ Below w.heap.size w w' :=
  (AnyPu.strconv_toError_syntax Tryz.laysPu17 fn s base bts ev w hlim hv hev).mono fun e w' ⟨N, he, _, _, hB⟩ => ⟨N, he, hB⟩
theorem toErr_rng (fn s : ByteArray) (base bts : Int) (ev : Value) (w : World) (hlim : s.size ≤ 281474976710656) (hv : w.cell? ⟨3, 0, none⟩ = some ev) (hev : ev = .nilIface ∨ ∃ te pe, ev = .iface te pe) :
    Calls Tryz.prog 66 #[.string fn, .string s, .int .i64 base, .int .i64 bts, .iface 112 (.int .i64 1)] w fun e w' => ∃ N, e = .returned (.iface 115 (.pointer (some ⟨N, 0, none⟩))) ∧ Below w.heap.size w w' :=
  (AnyPu.strconv_toError_range Tryz.laysPu17 fn s base bts ev w hlim hv hev).mono fun e w' ⟨N, he, _, _, hB⟩ => ⟨N, he, hB⟩

/-- Two variables that hold errors. -/
def ErrVarsP (w : World) : Prop := (∃ ev, w.cell? ⟨2, 0, none⟩ = some ev ∧ (ev = .nilIface ∨ ∃ te pe, ev = .iface te pe)) ∧ ∃ ev, w.cell? ⟨3, 0, none⟩ = some ev ∧ (ev = .nilIface ∨ ∃ te pe, ev = .iface te pe)

theorem ErrVarsP.below {w w' : World} (h : ErrVarsP w) (hb : Below w.heap.size w w') : ErrVarsP w' := by
  obtain ⟨⟨e1, h1, k1⟩, e2, h2, k2⟩ := h
  exact ⟨⟨e1, (hb.cell (show (⟨2, 0, none⟩ : Addr).block < w.heap.size from Lib.lt_of_cell h1)).trans h1, k1⟩, e2, (hb.cell (show (⟨3, 0, none⟩ : Addr).block < w.heap.size from Lib.lt_of_cell h2)).trans h2, k2⟩

/-- The value that comes of a reading, and whether it is one. -/
def valP : P16 → Nat
  | .ok n => n
  | .syn => 0
  | .rng => 4294967295
def okP : P16 → Bool
  | .ok _ => true
  | _ => false

set_option maxHeartbeats 4000000 in
set_option maxRecDepth 100000 in
theorem parse_ok (s : ByteArray) (hlim : s.size ≤ 281474976710656) (n : Nat) (h : parseS s.data.toList = .ok n) (w : World) :
    Calls Tryz.prog 54 #[.string s, .int .i64 16, .int .i64 32] w fun e w' => e = .returned (.tuple #[.int .u64 (n : Int), .nilIface]) ∧ Below w.heap.size w w' := by
  have hI := inner_parseS s (by omega) w
  rw [h] at hI
  have hI : Calls Tryz.prog 65 #[.string s, .int .i64 16, .int .i64 32] w fun e w' => e = .returned (.tuple #[.int .u64 (n : Int), .nilIface]) ∧ Below w.heap.size w w' := hI
  clear h
  go_enter Tryz.func54, Tryz.ntmps54
  go_wp2_with (go_at_call 65; refine hI.mono ?_; rintro e W1 ⟨rfl, hW⟩)
  go_wp2
  go_ret2
  exact ⟨rfl, hW⟩

set_option maxHeartbeats 4000000 in
set_option maxRecDepth 100000 in
theorem parse_syn (s : ByteArray) (hlim : s.size ≤ 281474976710656) (h : parseS s.data.toList = .syn) (w : World) (hE : ErrVarsP w) :
    Calls Tryz.prog 54 #[.string s, .int .i64 16, .int .i64 32] w fun e w' => ∃ N, e = .returned (.tuple #[.int .u64 0, .iface 115 (.pointer (some ⟨N, 0, none⟩))]) ∧ Below w.heap.size w w' := by
  have hI := inner_parseS s (by omega) w
  rw [h] at hI
  have hI : Calls Tryz.prog 65 #[.string s, .int .i64 16, .int .i64 32] w fun e w' => e = .returned (.tuple #[.int .u64 0, .iface 112 (.int .i64 2)]) ∧ Below w.heap.size w w' := hI
  clear h
  have HE := Lib.hid hE
  clear hE
  go_enter Tryz.func54, Tryz.ntmps54
  go_wp2_with (go_at_call 65; refine hI.mono ?_)
  rintro e W1 ⟨rfl, hb1⟩
  obtain ⟨⟨ev, hv, hev⟩, _⟩ := HE.out.below hb1
  go_wp2_with (go_at_call 66; refine (toErr_syn ⟨#[80, 97, 114, 115, 101, 85, 105, 110, 116]⟩ s 16 32 ev _ hlim hv hev).mono ?_)
  rintro e W2 ⟨N, rfl, h3⟩
  go_wp2
  go_ret2
  exact ⟨N, rfl, hb1.trans (h3.mono hb1.size)⟩

set_option maxHeartbeats 4000000 in
set_option maxRecDepth 100000 in
theorem parse_rng (s : ByteArray) (hlim : s.size ≤ 281474976710656) (h : parseS s.data.toList = .rng) (w : World) (hE : ErrVarsP w) :
    Calls Tryz.prog 54 #[.string s, .int .i64 16, .int .i64 32] w fun e w' => ∃ N, e = .returned (.tuple #[.int .u64 4294967295, .iface 115 (.pointer (some ⟨N, 0, none⟩))]) ∧ Below w.heap.size w w' := by
  have hI := inner_parseS s (by omega) w
  rw [h] at hI
  have hI : Calls Tryz.prog 65 #[.string s, .int .i64 16, .int .i64 32] w fun e w' => e = .returned (.tuple #[.int .u64 4294967295, .iface 112 (.int .i64 1)]) ∧ Below w.heap.size w w' := hI
  clear h
  have HE := Lib.hid hE
  clear hE
  go_enter Tryz.func54, Tryz.ntmps54
  go_wp2_with (go_at_call 65; refine hI.mono ?_)
  rintro e W1 ⟨rfl, hb1⟩
  obtain ⟨_, ev, hv, hev⟩ := HE.out.below hb1
  go_wp2_with (go_at_call 66; refine (toErr_rng ⟨#[80, 97, 114, 115, 101, 85, 105, 110, 116]⟩ s 16 32 ev _ hlim hv hev).mono ?_)
  rintro e W2 ⟨N, rfl, h3⟩
  go_wp2
  go_ret2
  exact ⟨N, rfl, hb1.trans (h3.mono hb1.size)⟩

end Go.Proofs.YtacelaaifaffpaaGreatDoor
