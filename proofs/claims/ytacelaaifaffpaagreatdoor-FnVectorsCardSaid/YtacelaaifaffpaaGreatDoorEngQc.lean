/- The engine, part Qc: numbers written at base ten (by the shelf's contract) and sixteen (walked), texts repeated (by the shelf's contract). -/
import Derived.Test.YtacelaaifaffpaaGreatDoorEngQb
import Derived.Test.YtacelaaifaffpaaGreatDoorShelf
import Derived.Test.YtacelaaifaffpaaGreatDoorHexW
import Derived.Lib.AppendIntMem
namespace Go.Proofs.YtacelaaifaffpaaGreatDoor
set_option linter.unusedVariables false
set_option linter.unusedSimpArgs false

theorem ret_below {w w' : World} {vs : Array Value} (hiv : IvOK w) (hb : Go.RowKit.Below w.heap.size w w') {p : PV} (hp : p.plain = true) {v : Value} (hv : VSim (argCx w vs) p v) : RetSim w w' vs ⟨p, []⟩ v :=
  ⟨fun n => n < w.heap.size, fun _ => undef, VSim.plain hp hv, ⟨fun id b h => (by cases h), fun id b n h => (by cases h), fun i j bi bj n h => (by cases h), fun n hn _ => hb.block n hn, hb.os, hb.tape, hb.output, hb.size, fun n hn => Nat.lt_of_lt_of_le hn hb.size, hiv.1, fun n hn => ⟨hiv.2 n hn, fun e => e⟩⟩⟩

theorem debruijn_cell {w : World} (h : IvOK w) : w.cell? ⟨6, 15, none⟩ = some (.int .u8 4) := by
  have := h.1.places.cell (g := 6) (by kernel_rfl) 15 (by decide)
  exact this

def strconv_FormatInt_c : Con := fun args => match args with
  | [.int .i64 n, .int .i64 b] => bif decide (b = 10) then some (.need (decide (-9223372036854775808 ≤ n) && decide (n ≤ 9223372036854775807)) (.leaf ⟨.str (Go.Lib.itoa n), []⟩)) else
    bif decide (b = 16) then some (.need (decide (0 ≤ n) && decide (n ≤ 9223372036854775807)) (.leaf ⟨.str (hexText n.toNat), []⟩)) else none
  | _ => none

set_option maxRecDepth 100000 in
theorem strconv_FormatInt_ok : FunOK Tryz.prog 49 strconv_FormatInt_c.fn := by
  intro w args vs r hiv hF hv
  unfold Con.fn strconv_FormatInt_c at hF
  split at hF
  · rename_i t ht
    split at ht
    · rename_i n b
      obtain ⟨u, v, rfl, hu, hq⟩ := two_args hv
      simp only [VSim] at hu hq
      subst hu hq
      rw [cond_eq_ite] at ht
      split at ht
      · rename_i hb
        have hb := of_decide_eq_true hb
        subst hb
        cases ht
        cases hc : (decide (-9223372036854775808 ≤ n) && decide (n ≤ 9223372036854775807)) with
        | false => rw [hc] at hF; cases hF
        | true =>
          rw [hc] at hF
          simp only [DT.get, Option.some.injEq] at hF
          subst hF
          rw [Bool.and_eq_true, decide_eq_true_eq, decide_eq_true_eq] at hc
          have h := Any.strconv_FormatInt_10 Tryz.lays173 n hc.1 hc.2 w hiv.1.pow
          refine callsTo_of Tryz.func49 (x := bodyOf Tryz.f49) (by kernel_rfl) (by kernel_rfl) (Calls.mono h fun e w' he => ?_)
          obtain ⟨rfl, k, os, rfl⟩ := he
          refine ret_below hiv (Go.Lib.below_grow _ w (Nat.le_refl _) k os) rfl ?_
          simp only [VSim]
          exact ⟨_, rfl, rfl⟩
      · obtain ⟨hb, ht⟩ := bif_some ht
        subst hb
        cases ht
        cases hc : (decide (0 ≤ n) && decide (n ≤ 9223372036854775807)) with
        | false => rw [hc] at hF; cases hF
        | true =>
          rw [hc] at hF
          simp only [DT.get, Option.some.injEq] at hF
          subst hF
          rw [Bool.and_eq_true, decide_eq_true_eq, decide_eq_true_eq] at hc
          obtain ⟨u, rfl⟩ : ∃ u : Nat, n = u := ⟨n.toNat, by omega⟩
          have h := FormatInt_16 u (by omega) w (debruijn_cell hiv)
          refine callsTo_of Tryz.func49 (x := bodyOf Tryz.f49) (by kernel_rfl) (by kernel_rfl) (Calls.mono h fun e w' he => ?_)
          obtain ⟨rfl, hB⟩ := he
          refine ret_below hiv hB rfl ?_
          simp only [VSim]
          exact ⟨_, rfl, rfl⟩
    · cases ht
  · cases hF

/-! ## Texts repeated -/

theorem extra105 : Go.Proofs.Builder.Extra Tryz.prog Tryz.lays105_ren :=
  { sizeBuilder := by kernel_rfl, liesBuilder := by kernel_rfl, t5 := Tryz.underlying5, a5 := Tryz.isAgg5, z5 := Tryz.sizeOf5, v5 := Tryz.zeroValue5, infoByte := by kernel_rfl, cellsByte := by kernel_rfl, sizeByte := by kernel_rfl, neB5 := by decide }
def strings_Repeat_c : Con := fun args => match args with
  | [.str s, .int .i64 n] => some (.need (decide (0 ≤ n) && decide (n ≤ 9223372036854775807) && decide (List.length s * Int.toNat n ≤ 140737488355328)) (.leaf ⟨.str (Go.Lib.repeatL s (Int.toNat n)), []⟩))
  | _ => none

set_option maxRecDepth 100000 in
theorem strings_Repeat_ok : FunOK Tryz.prog 51 strings_Repeat_c.fn := by
  intro w args vs r hiv hF hv
  unfold Con.fn strings_Repeat_c at hF
  split at hF
  · rename_i t ht
    split at ht
    · rename_i s n
      cases ht
      cases hc : (decide (0 ≤ n) && decide (n ≤ 9223372036854775807) && decide (List.length s * Int.toNat n ≤ 140737488355328)) with
      | false => rw [hc] at hF; cases hF
      | true =>
        rw [hc] at hF
        simp only [DT.get, Option.some.injEq] at hF
        subst hF
        simp only [Bool.and_eq_true, decide_eq_true_eq] at hc
        obtain ⟨u, v, rfl, hu, hq⟩ := two_args hv
        simp only [VSim] at hu hq
        subst hq
        obtain ⟨sb, rfl, rfl⟩ := hu
        obtain ⟨k, rfl⟩ : ∃ k : Nat, n = k := ⟨n.toNat, by omega⟩
        have h := Any.strings_Repeat Tryz.lays105 extra105 sb k w (by omega) (by rw [Go.Lib.size_eq]; exact hc.2)
        refine callsTo_of Tryz.func51 (x := bodyOf Tryz.f51) (by kernel_rfl) (by kernel_rfl) (Calls.mono h fun e w' he => ?_)
        obtain ⟨rfl, hB⟩ := he
        refine ret_below hiv hB rfl ?_
        simp only [VSim]
        exact ⟨_, rfl, rfl⟩
    · cases ht
  · cases hF

end Go.Proofs.YtacelaaifaffpaaGreatDoor
