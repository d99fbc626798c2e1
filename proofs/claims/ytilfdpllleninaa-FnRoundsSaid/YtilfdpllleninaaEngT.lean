/- The engine, part T: loops, in plain Lean. -/
import Derived.Test.YtilfdpllleninaaEngO
namespace Go.Proofs.Ytilfdpllleninaa
set_option linter.unusedVariables false
set_option linter.unusedSimpArgs false

section
variable {σ ρ : Type}

/-- A loop with a measure ends. -/
theorem iter_ends {step : σ → Round σ ρ} (inv : σ → Prop) (μ : σ → Nat) (h : ∀ s, inv s → ∃ o fl, (step s).get = some (o, fl) ∧ match o with
    | .inl s' => inv s' ∧ μ s' < μ s
    | .inr _ => True) : ∀ s, inv s → ∃ k r, iter step k s = some r := by
  intro s
  generalize hm : μ s = m
  induction m using Nat.strongRecOn generalizing s with
  | _ m ih =>
    intro hi
    obtain ⟨o, fl, ho, hc⟩ := h s hi
    cases o with
    | inl s' =>
      obtain ⟨k, r, hk⟩ := ih (μ s') (by rw [← hm]; exact hc.2) s' rfl hc.1
      exact ⟨k + 1, r, by simp only [iter, ho]; exact hk⟩
    | inr r => exact ⟨1, r, by simp only [iter, ho]⟩

theorem ends_of {step : σ → Round σ ρ} (inv : σ → Prop) (μ : σ → Nat) (h : ∀ s, inv s → ∃ o fl, (step s).get = some (o, fl) ∧ match o with
    | .inl s' => inv s' ∧ μ s' < μ s
    | .inr _ => True) (s : σ) (hs : inv s) : loopEnds step s = true := by
  obtain ⟨k, r, hk⟩ := iter_ends inv μ h s hs
  exact @decide_eq_true _ (Classical.propDecidable _) ⟨k, r, hk⟩

/-- What holds at the end of a loop. -/
theorem iter_inv {step : σ → Round σ ρ} (inv : σ → Prop) (post : ρ → Prop) (h : ∀ s, inv s → ∀ o fl, (step s).get = some (o, fl) → match o with
    | .inl s' => inv s'
    | .inr r => post r) : ∀ k s r, inv s → iter step k s = some r → post r
  | 0, s, r, _, hk => by simp [iter] at hk
  | k + 1, s, r, hi, hk => by
    simp only [iter] at hk
    split at hk
    · rename_i s' fl hg
      exact iter_inv inv post h k s' r (h s hi _ _ hg) hk
    · rename_i r' fl hg
      cases hk
      exact h s hi _ _ hg
    · cases hk

/-- Two loops side by side. -/
theorem iter_rel {σ' ρ' : Type} {step : σ → Round σ ρ} {step' : σ' → Round σ' ρ'} (R : σ → σ' → Prop) (Q : ρ → ρ' → Prop)
    (h : ∀ s s', R s s' → ∀ o fl, (step s).get = some (o, fl) → ∃ o' fl', (step' s').get = some (o', fl') ∧ match o, o' with
      | .inl t, .inl t' => R t t'
      | .inr r, .inr r' => Q r r'
      | _, _ => False) : ∀ k s s' r, R s s' → iter step k s = some r → ∃ r', iter step' k s' = some r' ∧ Q r r'
  | 0, s, s', r, _, hk => by simp [iter] at hk
  | k + 1, s, s', r, hR, hk => by
    simp only [iter] at hk ⊢
    split at hk
    · rename_i t fl hg
      obtain ⟨o', fl', hg', hm⟩ := h s s' hR _ _ hg
      cases o' with
      | inl t' => rw [hg']; exact iter_rel R Q h k t t' r hm hk
      | inr r' => exact hm.elim
    · rename_i r0 fl hg
      cases hk
      obtain ⟨o', fl', hg', hm⟩ := h s s' hR _ _ hg
      cases o' with
      | inl t' => exact hm.elim
      | inr r' => rw [hg']; exact ⟨r', rfl, hm⟩
    · cases hk

theorem val_rel {σ' ρ' : Type} [Inhabited ρ] [Inhabited ρ'] {step : σ → Round σ ρ} {step' : σ' → Round σ' ρ'} (R : σ → σ' → Prop) (Q : ρ → ρ' → Prop)
    (h : ∀ s s', R s s' → ∀ o fl, (step s).get = some (o, fl) → ∃ o' fl', (step' s').get = some (o', fl') ∧ match o, o' with
      | .inl t, .inl t' => R t t'
      | .inr r, .inr r' => Q r r'
      | _, _ => False) {s : σ} {s' : σ'} (hR : R s s') (he : loopEnds step s = true) : loopEnds step' s' = true ∧ Q (loopVal step s) (loopVal step' s') := by
  obtain ⟨k, hk⟩ := loopEnds_iter he
  obtain ⟨r', hr', hq⟩ := iter_rel R Q h k s s' _ hR hk
  obtain ⟨h1, h2⟩ := loopVal_eq hr'
  exact ⟨h2, by rw [h1]; exact hq⟩

end
end Go.Proofs.Ytilfdpllleninaa
