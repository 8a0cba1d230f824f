/- The program's BurnOf returns what the reference's returns, for all integers bad, all and target. No further condition. -/
import Derived.Test.YtmneleafdhgalaaPFnExactBurnOfx1
namespace Go.Proofs.Ytmneleafdhgalaa.Pure
open Go.RowKit Go.Proofs.Ytmneleafdhgalaa.PFnExactBurnOf Go.Proofs.YtmneleafdhgalaaW.PrintWords Go.Proofs.YtmneleafdhgalaaW.PrintLast

theorem quot_eq (a b : Int) : spec_Quotient.f a b = impl_Quotient.f a b := by
  unfold spec_Quotient.f impl_Quotient.f
  by_cases hb : b = 0
  · rw [if_pos hb, if_pos hb]
  · rw [if_neg hb, if_neg hb]
    by_cases hm : Int.tmod a b = 0
    · rw [if_pos hm, if_pos hm]
    · rw [if_neg hm, if_neg hm]
      have : decide (Int.tmod a b < 0) = decide (a < 0) := by
        rw [decide_eq_decide]
        constructor
        · intro h
          apply Classical.byContradiction
          intro h0
          have := Int.tmod_nonneg b (a := a) (by omega)
          omega
        · intro h
          have h1 := Int.tmod_nonneg b (a := -a) (by omega)
          rw [Int.neg_tmod] at h1
          omega
      rw [this]

theorem burn_eq (a b c : Int) : spec_BurnOf.f a b c = impl_BurnOf.f a b c := by
  unfold spec_BurnOf.f impl_BurnOf.f impl_goodTarget.f
  simp only [quot_eq]
  by_cases h1 : a < 0
  · simp only [if_pos h1]
  by_cases h2 : a > 1000000000
  · simp only [if_neg h1, if_pos h2]
  by_cases h3 : b < 1
  · simp only [if_neg h1, if_neg h2, if_pos h3]
  by_cases h4 : b > 1000000000
  · simp only [if_neg h1, if_neg h2, if_neg h3, if_pos h4]
  simp only [if_neg h1, if_neg h2, if_neg h3, if_neg h4]
  by_cases h5 : c < 1
  · have h6 : ¬ c ≥ 1 := by omega
    simp [h5, h6]
  · have h6 : c ≥ 1 := by omega
    rw [if_neg h5, if_pos h6]
    by_cases h7 : c < 1000000
    · have h8 : ¬ c ≥ 1000000 := by omega
      simp [h7, h8]
    · have h8 : c ≥ 1000000 := by omega
      simp [h7, h8]

theorem burn_some (a b c : Int) : ∃ r, impl_BurnOf.f a b c = some r := by
  unfold impl_BurnOf.f
  split
  · exact ⟨_, rfl⟩
  split
  · exact ⟨_, rfl⟩
  split
  · exact ⟨_, rfl⟩
  split
  · exact ⟨_, rfl⟩
  have hg : ∃ g, impl_goodTarget.f c = some g := by unfold impl_goodTarget.f; split <;> exact ⟨_, rfl⟩
  obtain ⟨g, hg⟩ := hg
  rw [hg, Option.bind_some]
  split
  · have hq : ∀ x y, ∃ q, impl_Quotient.f x y = some q := by
      intro x y
      unfold impl_Quotient.f
      split
      · exact ⟨_, rfl⟩
      split
      · exact ⟨_, rfl⟩
      split <;> exact ⟨_, rfl⟩
    obtain ⟨q, hq⟩ := hq (wrap64 (wrap64 (a * 1000) * 1000000)) (wrap64 (b * wrap64 (1000000 - c)))
    rw [hq]
    exact ⟨_, rfl⟩
  · exact ⟨_, rfl⟩

theorem FnExactBurnOf : laws_FnExactBurnOf.Pure := by
  intro a b c _ _ _
  unfold laws_FnExactBurnOf.f
  rw [burn_eq]
  obtain ⟨r, hr⟩ := burn_some a b c
  rw [hr]
  simp

end Go.Proofs.Ytmneleafdhgalaa.Pure
