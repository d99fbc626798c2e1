/- The engine, part Qd: texts joined, by the shelf's contract. -/
import Derived.Test.YtacelaaifaffpaaGreatDoorEngQc
namespace Go.Proofs.YtacelaaifaffpaaGreatDoor
set_option linter.unusedVariables false
set_option linter.unusedSimpArgs false

theorem extra156 : Go.Proofs.Builder.Extra Tryz.prog Tryz.lays156_ren :=
  { sizeBuilder := by kernel_rfl, liesBuilder := by kernel_rfl, t5 := Tryz.underlying5, a5 := Tryz.isAgg5, z5 := Tryz.sizeOf5, v5 := Tryz.zeroValue5, infoByte := by kernel_rfl, cellsByte := by kernel_rfl, sizeByte := by kernel_rfl, neB5 := by decide }

theorem flat_strs : ∀ {xs : List (UC.str).T} {us : List Value}, All2 SSim (flat .str xs) us → ∃ bs : List ByteArray, us = bs.map Value.string ∧ bs.map (fun b => b.data.toList) = xs
  | [], [], _ => ⟨[], rfl, rfl⟩
  | [], _ :: _, h => by simp [flat, All2] at h
  | x :: xs, [], h => by simp [flat, UC.enc, All2] at h
  | x :: xs, u :: us, h => by
    simp only [flat, UC.enc, List.cons_append, List.nil_append, All2] at h
    obtain ⟨bs, h1, h2⟩ := flat_strs h.2
    have h3 := h.1
    simp only [SSim] at h3
    obtain ⟨ba, rfl, hb⟩ := h3
    exact ⟨ba :: bs, by rw [h1]; rfl, by rw [List.map_cons, hb, h2]; rfl⟩

def strings_Join_c : Con := fun args => match args with
  | [.vslc _ .str xs, .str s] => some (.need (decide (List.length xs ≤ 140737488355328) && decide (List.length (Go.Lib.join xs s) ≤ 140737488355328)) (.leaf ⟨.str (Go.Lib.join xs s), []⟩))
  | _ => none

set_option maxRecDepth 100000 in
theorem strings_Join_ok : FunOK Tryz.prog 52 strings_Join_c.fn := by
  intro w args vs r hiv hF hv
  unfold Con.fn strings_Join_c at hF
  split at hF
  · rename_i t ht
    split at ht
    · rename_i tag xs s
      cases ht
      cases hc : (decide (List.length xs ≤ 140737488355328) && decide (List.length (Go.Lib.join xs s) ≤ 140737488355328)) with
      | false => rw [hc] at hF; cases hF
      | true =>
        rw [hc] at hF
        simp only [DT.get, Option.some.injEq] at hF
        subst hF
        rw [Bool.and_eq_true, decide_eq_true_eq, decide_eq_true_eq] at hc
        obtain ⟨u, v, rfl, hu, hq⟩ := two_args hv
        simp only [VSim] at hu hq
        obtain ⟨sep, rfl, rfl⟩ := hq
        obtain ⟨_, a, m, rfl, hm, hw⟩ := hu
        have fin : ∀ {w' : World}, Go.RowKit.Below w.heap.size w w' → RetSim w w' #[Value.slice a (List.length xs) m, .string sep] ⟨.str (Go.Lib.join xs sep.data.toList), []⟩ (.string ⟨(Go.Lib.join xs sep.data.toList).toArray⟩) := fun hB => by
          refine ret_below hiv hB rfl ?_
          simp only [VSim]
          exact ⟨_, rfl, rfl⟩
        by_cases hx : xs = []
        · subst hx
          have h := Any.strings_Join_none Tryz.lays156 extra156 a m sep w
          refine callsTo_of Tryz.func52 (x := bodyOf Tryz.f52) (by kernel_rfl) (by kernel_rfl) (Calls.mono h fun e w' he => ?_)
          obtain ⟨rfl, rfl⟩ := he
          exact fin (Go.RowKit.Below.refl _ _)
        · obtain ⟨b, off, rfl, hb, us, hcs, hS⟩ := hw hx
          obtain ⟨bs, rfl, hxs⟩ := flat_strs hS
          have hlen : List.length xs = bs.length := by rw [← hxs]; exact List.length_map _
          have h := Any.strings_Join Tryz.lays156 extra156 b off m bs sep w (fun j x hj => hcs j _ (by rw [List.getElem?_map, hj]; rfl)) hb (by rw [← hlen]; exact hc.1) (by rw [← hlen]; exact hm) (by rw [hxs]; exact hc.2)
          rw [hxs, ← hlen] at h
          refine callsTo_of Tryz.func52 (x := bodyOf Tryz.f52) (by kernel_rfl) (by kernel_rfl) (Calls.mono h fun e w' he => ?_)
          obtain ⟨rfl, hB⟩ := he
          exact fin hB
    · cases ht
  · cases hF

end Go.Proofs.YtacelaaifaffpaaGreatDoor
