/- The engine, part Qc: numbers written at base ten (by the shelf's contract) and sixteen (walked), texts joined and repeated (by the shelf's contracts). -/
import Derived.Test.YtcipkfndnkmjlaaDoorEngQb
import Derived.Test.YtcipkfndnkmjlaaDoorShelf
import Derived.Test.YtcipkfndnkmjlaaDoorHexW
import Derived.Lib.AppendIntMem
namespace Go.Proofs.YtcipkfndnkmjlaaDoor
set_option linter.unusedVariables false
set_option linter.unusedSimpArgs false

theorem ret_below {w w' : World} {vs : Array Value} (hiv : IvOK w) (hb : Go.RowKit.Below w.heap.size w w') {p : PV} (hp : p.plain = true) {v : Value} (hv : VSim (argCx w vs) p v) : RetSim w w' vs ⟨p, []⟩ v :=
  ⟨fun n => n < w.heap.size, fun _ => undef, VSim.plain hp hv, ⟨fun id b h => (by cases h), fun id b n h => (by cases h), fun i j bi bj n h => (by cases h), fun n hn _ => hb.block n hn, hb.os, hb.tape, hb.output, hb.size, fun n hn => Nat.lt_of_lt_of_le hn hb.size, hiv.1, fun n hn => ⟨hiv.2 n hn, fun e => e⟩⟩⟩

theorem debruijn_cell {w : World} (h : IvOK w) : w.cell? ⟨6, 15, none⟩ = some (.int .u8 4) := by
  have := h.1.2.cell (g := 6) (by kernel_rfl) 15 (by decide)
  exact this

def strconv_FormatInt_c : Con := fun args => match args with
  | [.int .i64 n, .int .i64 b] => bif decide (b = 10) then some (.need (decide (-9223372036854775808 ≤ n) && decide (n ≤ 9223372036854775807)) (.leaf ⟨.str (Go.Lib.itoa n), []⟩)) else
    bif decide (b = 16) then some (.need (decide (0 ≤ n) && decide (n ≤ 9223372036854775807)) (.leaf ⟨.str (hexText n.toNat), []⟩)) else none
  | _ => none

set_option maxRecDepth 100000 in
theorem strconv_FormatInt_ok : FunOK Tryd.prog 120 strconv_FormatInt_c.fn := by
  intro w args vs r hiv hF hv
  unfold Con.fn strconv_FormatInt_c at hF
  split at hF
  · rename_i t ht
    split at ht
    · rename_i n b
      obtain ⟨u, v, rfl, hu, hq⟩ := two_args hv
      simp only [VSim] at hu hq
      subst hu hq
      rw [cond_eq_ite] at ht
      split at ht
      · rename_i hb
        have hb := of_decide_eq_true hb
        subst hb
        cases ht
        cases hc : (decide (-9223372036854775808 ≤ n) && decide (n ≤ 9223372036854775807)) with
        | false => rw [hc] at hF; cases hF
        | true =>
          rw [hc] at hF
          simp only [DT.get, Option.some.injEq] at hF
          subst hF
          rw [Bool.and_eq_true, decide_eq_true_eq, decide_eq_true_eq] at hc
          have h := Any.strconv_FormatInt_10 Tryd.lays173 n hc.1 hc.2 w hiv.1.1
          refine callsTo_of Tryd.func120 (x := bodyOf Tryd.f120) (by kernel_rfl) (by kernel_rfl) (Calls.mono h fun e w' he => ?_)
          obtain ⟨rfl, k, os, rfl⟩ := he
          refine ret_below hiv (Go.Lib.below_grow _ w (Nat.le_refl _) k os) rfl ?_
          simp only [VSim]
          exact ⟨_, rfl, rfl⟩
      · obtain ⟨hb, ht⟩ := bif_some ht
        subst hb
        cases ht
        cases hc : (decide (0 ≤ n) && decide (n ≤ 9223372036854775807)) with
        | false => rw [hc] at hF; cases hF
        | true =>
          rw [hc] at hF
          simp only [DT.get, Option.some.injEq] at hF
          subst hF
          rw [Bool.and_eq_true, decide_eq_true_eq, decide_eq_true_eq] at hc
          obtain ⟨u, rfl⟩ : ∃ u : Nat, n = u := ⟨n.toNat, by omega⟩
          have h := FormatInt_16 u (by omega) w (debruijn_cell hiv)
          refine callsTo_of Tryd.func120 (x := bodyOf Tryd.f120) (by kernel_rfl) (by kernel_rfl) (Calls.mono h fun e w' he => ?_)
          obtain ⟨rfl, hB⟩ := he
          refine ret_below hiv hB rfl ?_
          simp only [VSim]
          exact ⟨_, rfl, rfl⟩
    · cases ht
  · cases hF

/-! ## Texts joined and repeated -/

theorem extra105 : Go.Proofs.Builder.Extra Tryd.prog Tryd.lays105_ren :=
  { sizeBuilder := by kernel_rfl, liesBuilder := by kernel_rfl, t5 := Tryd.underlying5, a5 := Tryd.isAgg5, z5 := Tryd.sizeOf5, v5 := Tryd.zeroValue5, infoByte := by kernel_rfl, cellsByte := by kernel_rfl, sizeByte := by kernel_rfl, neB5 := by decide }
theorem extra156 : Go.Proofs.Builder.Extra Tryd.prog Tryd.lays156_ren :=
  { sizeBuilder := by kernel_rfl, liesBuilder := by kernel_rfl, t5 := Tryd.underlying5, a5 := Tryd.isAgg5, z5 := Tryd.sizeOf5, v5 := Tryd.zeroValue5, infoByte := by kernel_rfl, cellsByte := by kernel_rfl, sizeByte := by kernel_rfl, neB5 := by decide }

theorem flat_strs : ∀ {xs : List (UC.str).T} {us : List Value}, All2 SSim (flat .str xs) us → ∃ bs : List ByteArray, us = bs.map Value.string ∧ bs.map (fun b => b.data.toList) = xs
  | [], [], _ => ⟨[], rfl, rfl⟩
  | [], _ :: _, h => by simp [flat, All2] at h
  | x :: xs, [], h => by simp [flat, UC.enc, All2] at h
  | x :: xs, u :: us, h => by
    simp only [flat, UC.enc, List.cons_append, List.nil_append, All2] at h
    obtain ⟨bs, h1, h2⟩ := flat_strs h.2
    have h3 := h.1
    simp only [SSim] at h3
    obtain ⟨ba, rfl, hb⟩ := h3
    exact ⟨ba :: bs, by rw [h1]; rfl, by rw [List.map_cons, hb, h2]; rfl⟩

def strings_Join_c : Con := fun args => match args with
  | [.vslc _ .str xs, .str s] => some (.need (decide (List.length xs ≤ 140737488355328) && decide (List.length (Go.Lib.join xs s) ≤ 140737488355328)) (.leaf ⟨.str (Go.Lib.join xs s), []⟩))
  | _ => none

set_option maxRecDepth 100000 in
theorem strings_Join_ok : FunOK Tryd.prog 107 strings_Join_c.fn := by
  intro w args vs r hiv hF hv
  unfold Con.fn strings_Join_c at hF
  split at hF
  · rename_i t ht
    split at ht
    · rename_i tag xs s
      cases ht
      cases hc : (decide (List.length xs ≤ 140737488355328) && decide (List.length (Go.Lib.join xs s) ≤ 140737488355328)) with
      | false => rw [hc] at hF; cases hF
      | true =>
        rw [hc] at hF
        simp only [DT.get, Option.some.injEq] at hF
        subst hF
        rw [Bool.and_eq_true, decide_eq_true_eq, decide_eq_true_eq] at hc
        obtain ⟨u, v, rfl, hu, hq⟩ := two_args hv
        simp only [VSim] at hu hq
        obtain ⟨sep, rfl, rfl⟩ := hq
        obtain ⟨_, a, m, rfl, hm, hw⟩ := hu
        have fin : ∀ {w' : World}, Go.RowKit.Below w.heap.size w w' → RetSim w w' #[Value.slice a (List.length xs) m, .string sep] ⟨.str (Go.Lib.join xs sep.data.toList), []⟩ (.string ⟨(Go.Lib.join xs sep.data.toList).toArray⟩) := fun hB => by
          refine ret_below hiv hB rfl ?_
          simp only [VSim]
          exact ⟨_, rfl, rfl⟩
        by_cases hx : xs = []
        · subst hx
          have h := Any.strings_Join_none Tryd.lays156 extra156 a m sep w
          refine callsTo_of Tryd.func107 (x := bodyOf Tryd.f107) (by kernel_rfl) (by kernel_rfl) (Calls.mono h fun e w' he => ?_)
          obtain ⟨rfl, rfl⟩ := he
          exact fin (Go.RowKit.Below.refl _ _)
        · obtain ⟨b, off, rfl, hb, us, hcs, hS⟩ := hw hx
          obtain ⟨bs, rfl, hxs⟩ := flat_strs hS
          have hlen : List.length xs = bs.length := by rw [← hxs]; exact List.length_map _
          have h := Any.strings_Join Tryd.lays156 extra156 b off m bs sep w (fun j x hj => hcs j _ (by rw [List.getElem?_map, hj]; rfl)) hb (by rw [← hlen]; exact hc.1) (by rw [← hlen]; exact hm) (by rw [hxs]; exact hc.2)
          rw [hxs, ← hlen] at h
          refine callsTo_of Tryd.func107 (x := bodyOf Tryd.f107) (by kernel_rfl) (by kernel_rfl) (Calls.mono h fun e w' he => ?_)
          obtain ⟨rfl, hB⟩ := he
          exact fin hB
    · cases ht
  · cases hF

def strings_Repeat_c : Con := fun args => match args with
  | [.str s, .int .i64 n] => some (.need (decide (0 ≤ n) && decide (n ≤ 9223372036854775807) && decide (List.length s * Int.toNat n ≤ 140737488355328)) (.leaf ⟨.str (Go.Lib.repeatL s (Int.toNat n)), []⟩))
  | _ => none

set_option maxRecDepth 100000 in
theorem strings_Repeat_ok : FunOK Tryd.prog 125 strings_Repeat_c.fn := by
  intro w args vs r hiv hF hv
  unfold Con.fn strings_Repeat_c at hF
  split at hF
  · rename_i t ht
    split at ht
    · rename_i s n
      cases ht
      cases hc : (decide (0 ≤ n) && decide (n ≤ 9223372036854775807) && decide (List.length s * Int.toNat n ≤ 140737488355328)) with
      | false => rw [hc] at hF; cases hF
      | true =>
        rw [hc] at hF
        simp only [DT.get, Option.some.injEq] at hF
        subst hF
        simp only [Bool.and_eq_true, decide_eq_true_eq] at hc
        obtain ⟨u, v, rfl, hu, hq⟩ := two_args hv
        simp only [VSim] at hu hq
        subst hq
        obtain ⟨sb, rfl, rfl⟩ := hu
        obtain ⟨k, rfl⟩ : ∃ k : Nat, n = k := ⟨n.toNat, by omega⟩
        have h := Any.strings_Repeat Tryd.lays105 extra105 sb k w (by omega) (by rw [Go.Lib.size_eq]; exact hc.2)
        refine callsTo_of Tryd.func125 (x := bodyOf Tryd.f125) (by kernel_rfl) (by kernel_rfl) (Calls.mono h fun e w' he => ?_)
        obtain ⟨rfl, hB⟩ := he
        refine ret_below hiv hB rfl ?_
        simp only [VSim]
        exact ⟨_, rfl, rfl⟩
    · cases ht
  · cases hF

end Go.Proofs.YtcipkfndnkmjlaaDoor
