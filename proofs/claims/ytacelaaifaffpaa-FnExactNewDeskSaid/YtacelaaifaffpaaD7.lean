/- Marks on no entries, as the walk asks for them. -/
import Derived.Test.YtacelaaifaffpaaD6
namespace Go.Proofs.Ytacelaaifaffpaa
open Go.RowKit Go.Extern
set_option linter.unusedVariables false
set_option linter.unusedSimpArgs false

theorem markE_val (k : Int) : laws_markEntryS_need [] k = true ∧ laws_markEntryS [] k = (k, []) := by
  obtain ⟨h1, h2⟩ := loop_post (step := laws_markEntryS_loop0_step ()) (fun s => s = (k, 0, [])) (fun _ => 0) (fun r => r = (k, [])) (by
    rintro s rfl
    exact ⟨.inr (k, []), _, rfl, rfl⟩) (k, 0, []) rfl
  have h1 : laws_markEntryS_loop0_ends () (k, 0, []) = true := h1
  have h2 : laws_markEntryS_loop0 () (k, 0, []) = (k, []) := h2
  have key : (laws_markEntryS_tree [] k).get = some (k, []) := by
    unfold laws_markEntryS_tree
    simp only [DT.get, h1, h2]
  exact DT.of_get key

theorem heldE_val (k : Int) : laws_heldEntryS_need [] k = true ∧ laws_heldEntryS [] k = k := by
  obtain ⟨h1, h2⟩ := loop_post (step := laws_heldEntryS_loop0_step []) (fun s => s = (k, 0)) (fun _ => 0) (fun r => r = .inr k) (by
    rintro s rfl
    exact ⟨.inr (.inr k), _, rfl, rfl⟩) (k, 0) rfl
  have h1 : laws_heldEntryS_loop0_ends [] (k, 0) = true := h1
  have h2 : laws_heldEntryS_loop0 [] (k, 0) = .inr k := h2
  have key : (laws_heldEntryS_tree [] k).get = some k := by
    unfold laws_heldEntryS_tree
    simp only [DT.get, h1, h2, isL]
    rfl
  exact DT.of_get key

set_option maxRecDepth 100000 in
theorem markE_calls (k : Int) (w : World) (hiv : IvOK w) :
    Calls Try.prog 19 #[.slice none 0 0, .int .i64 k] w fun e w' => e = .returned (.int .i64 k) ∧ Below w.heap.size w w' := by
  have hget : (DT.need (laws_markEntryS_need [] k) (.leaf (laws_markEntryS_mk (laws_markEntryS [] k)))).get = some (.int .i64 k, []) := by
    rw [(markE_val k).1, (markE_val k).2]
    rfl
  have hc := laws_markEntryS_ok w [] [.int .i64 k] (.slice none 0 0) [.int .i64 k] [] _ _ _ hiv (fun n hn => hn.elim) rfl hget rfl rfl (by simp only [VSims, VSim]; exact ⟨trivial, trivial⟩) ⟨rfl, .inl ⟨rfl, rfl⟩⟩ trivial
  refine (calls_of_fun (x := bodyOf Try.f19) Try.func19 (by kernel_rfl) (by kernel_rfl) hc).mono fun e w' ⟨v, he, hR⟩ => ?_
  obtain ⟨r1, _, r3, r4, r5, r6, r7⟩ := hR
  have r1 := r1 rfl
  simp only [VSim] at r1
  subst r1
  exact ⟨he, r4, r5, r6, r7, fun k hk => r3 k hk (by simp [blkOf])⟩

set_option maxRecDepth 100000 in
theorem heldE_calls (a : Option Addr) (k : Int) (w : World) (hiv : IvOK w) :
    Calls Try.prog 21 #[.slice a 0 0, .int .i64 k] w fun e w' => e = .returned (.int .i64 k) ∧ Below w.heap.size w w' := by
  have hF : laws_heldEntryS_c0.fn [.vslc 1 .entry [], .int .i64 k] = some ⟨.int .i64 k, []⟩ := by
    show (DT.need (laws_heldEntryS_need [] k) (.leaf (laws_heldEntryS_mk (laws_heldEntryS [] k)))).get = _
    rw [(heldE_val k).1, (heldE_val k).2]
    rfl
  refine (calls_of_fun (x := bodyOf Try.f21) Try.func21 (by kernel_rfl) (by kernel_rfl) (laws_heldEntryS_ok0 w _ #[.slice a 0 0, .int .i64 k] _ hiv hF (by
    simp only [VSims]
    exact ⟨tag_view (nil_view _ _ _) 0 rfl, by simp only [VSim], trivial⟩))).mono fun e w' ⟨v, he, hR⟩ => ?_
  have hb := below_of_ret hR
  obtain ⟨pr, φ, hv, _⟩ := hR
  simp only [VSim] at hv
  subst hv
  exact ⟨he, hb⟩

end Go.Proofs.Ytacelaaifaffpaa
