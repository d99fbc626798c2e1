/- Marks on a new desk's bodies, as the walk asks for them. -/
import Derived.Test.YtacelaaifaffpaaD5
namespace Go.Proofs.Ytacelaaifaffpaa
open Go.RowKit Go.Extern
set_option linter.unusedVariables false
set_option linter.unusedSimpArgs false

/-- The bodies of a new desk, marked. -/
noncomputable def LM : List Body := (laws_markBodyS LB 1).2

theorem LB_len : LB.length = 2 := rfl
theorem LM_len : LM.length = 2 := (mark_all LB (by decide)).2.2.1
theorem LM_held : laws_heldBodyS_need LM 1 = true ∧ laws_heldBodyS LM 1 = 15 := by
  obtain ⟨_, _, h3, h4⟩ := mark_all LB (by decide)
  obtain ⟨a, b⟩ := held_all LM (by rw [LM_len]; decide) (fun j hj => h4 j (by rw [LM_len] at hj; exact hj))
  refine ⟨a, ?_⟩
  rw [b, LM_len]
  rfl

set_option maxRecDepth 100000 in
theorem mark_calls (B g n m : Nat) (w : World) (hiv : IvOK w) (h : Held B g w (.slice (some ⟨g, 0, none⟩) n m) LB) :
    Calls Try.prog 18 #[.slice (some ⟨g, 0, none⟩) n m, .int .i64 1] w fun e w' => e = .returned (.int .i64 15) ∧ Held B g w' (.slice (some ⟨g, 0, none⟩) n m) LM ∧ (∀ k, k < w.heap.size → k ≠ g → w'.heap[k]? = w.heap[k]?) ∧ w'.os = w.os ∧ w'.tape = w.tape ∧ w'.output = w.output ∧ w.heap.size ≤ w'.heap.size := by
  obtain ⟨hm1, hm2, hm3, _⟩ := mark_all LB (by decide)
  have hp : (laws_markBodyS LB 1).1 = 15 := by rw [hm2]; rfl
  obtain ⟨_, hB, hlt, us, ho, hS⟩ := h
  have hget : (DT.need (laws_markBodyS_need LB 1) (.leaf (laws_markBodyS_mk (laws_markBodyS LB 1)))).get = some (.int .i64 15, LM) := by
    rw [hm1]
    show some (laws_markBodyS_mk (laws_markBodyS LB 1)) = _
    unfold laws_markBodyS_mk
    rw [hp]
    rfl
  have hc := laws_markBodyS_ok w LB [.int .i64 1] (.slice (some ⟨g, 0, none⟩) n m) [.int .i64 1] us _ _ _ hiv (fun k hk => hk.elim) rfl hget rfl rfl (by simp only [VSims, VSim]; exact ⟨trivial, trivial⟩) ho hS
  refine (calls_of_fun (x := bodyOf Try.f18) Try.func18 (by kernel_rfl) (by kernel_rfl) hc).mono fun e w' ⟨v, he, hR⟩ => ?_
  obtain ⟨r1, ⟨us', ho', hS'⟩, r3, r4, r5, r6, r7⟩ := hR
  have r1 := r1 rfl
  simp only [VSim] at r1
  subst r1
  refine ⟨he, ⟨⟨_, _, rfl⟩, hB, Nat.lt_of_lt_of_le hlt r7, us', ho', hS'⟩, fun k hk hne => r3 k hk ?_, r4, r5, r6, r7⟩
  simp only [blkOf, ne_eq, Option.some.injEq]
  omega

set_option maxRecDepth 100000 in
theorem held_calls (x : Value) (w : World) (hiv : IvOK w) (hx : ∀ vs, VSim (argCx w vs) (.vslc 0 .body LM) x) :
    Calls Try.prog 20 #[x, .int .i64 1] w fun e w' => e = .returned (.int .i64 15) ∧ Below w.heap.size w w' := by
  have hF : laws_heldBodyS_c0.fn [.vslc 1 .body LM, .int .i64 1] = some ⟨.int .i64 15, []⟩ := by
    show (DT.need (laws_heldBodyS_need LM 1) (.leaf (laws_heldBodyS_mk (laws_heldBodyS LM 1)))).get = _
    rw [LM_held.1, LM_held.2]
    rfl
  refine (calls_of_fun (x := bodyOf Try.f20) Try.func20 (by kernel_rfl) (by kernel_rfl) (laws_heldBodyS_ok0 w _ #[x, .int .i64 1] _ hiv hF (by
    simp only [VSims]
    exact ⟨tag_view (hx _) 0 rfl, by simp only [VSim], trivial⟩))).mono fun e w' ⟨v, he, hR⟩ => ?_
  have hb := below_of_ret hR
  obtain ⟨pr, φ, hv, _⟩ := hR
  simp only [VSim] at hv
  subst hv
  exact ⟨he, hb⟩

end Go.Proofs.Ytacelaaifaffpaa
