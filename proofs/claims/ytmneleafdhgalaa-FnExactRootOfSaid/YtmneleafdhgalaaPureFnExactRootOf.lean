/- The program's RootOf returns what the reference's returns, for every integer. No further condition. -/
import Derived.Test.YtmneleafdhgalaaPFnExactRootOfx1
namespace Go.Proofs.Ytmneleafdhgalaa.Pure
open Go.RowKit Go.Proofs.Ytmneleafdhgalaa.PFnExactRootOf Go.Proofs.YtmneleafdhgalaaW.PrintWords Go.Proofs.YtmneleafdhgalaaW.PrintLast

theorem halves (n : Int) (hn : 0 ≤ n) (h9 : n ≤ 9223372036854775807) : ∀ (d : Nat) (low high : Int), 0 ≤ low → low ≤ high → high ≤ top → (high - low).toNat ≤ d → low * low ≤ n → n < (high + 1) * (high + 1) →
    Ev (fun k => spec_RootOf.l0 k n low high) (rootI n) := by
  intro d
  induction d with
  | zero =>
    intro low high h0 h1 h2 hd hl hh
    obtain rfl : low = high := by omega
    have e : low = rootI n := root_unique ⟨fun h => by omega, fun _ => ⟨h0, hl, hh⟩⟩ (rootI_is n)
    refine Ev.step (f := fun _ => some low) (fun k => ?_) (by rw [e]; exact Ev.now _)
    simp only [spec_RootOf.l0]
    rw [if_neg (by omega)]
  | succ d ih =>
    intro low high h0 h1 h2 hd hl hh
    by_cases hlt : low < high
    · have ht : high ≤ 3037000499 := h2
      have em : wrap64 (Int.tdiv (wrap64 (wrap64 (low + high) + 1)) 2) = (low + high + 1) / 2 := by
        rw [w64 (x := low + high) (by omega) (by omega), w64 (x := low + high + 1) (by omega) (by omega), Int.tdiv_eq_ediv_of_nonneg (by omega), w64 (by omega) (by omega)]
      have hm : low < (low + high + 1) / 2 ∧ (low + high + 1) / 2 ≤ high := by omega
      generalize (low + high + 1) / 2 = mid at em hm
      have hsq := top_le (r := mid) (by omega) (by omega)
      have es : wrap64 (mid * mid) = mid * mid := w64 (by omega) hsq.1
      by_cases hc : mid * mid ≤ n
      · refine Ev.step (f := fun k => spec_RootOf.l0 k n mid high) (fun k => ?_) (ih mid high (by omega) (by omega) h2 (by omega) hc hh)
        simp only [spec_RootOf.l0]
        rw [if_pos hlt, em, es, if_pos hc]
      · have e1 : wrap64 (mid - 1) = mid - 1 := w64 (by omega) (by omega)
        refine Ev.step (f := fun k => spec_RootOf.l0 k n low (mid - 1)) (fun k => ?_) (ih low (mid - 1) h0 (by omega) (by omega) (by omega) hl (by rw [show mid - 1 + 1 = mid by omega]; omega))
        simp only [spec_RootOf.l0]
        rw [if_pos hlt, em, es, if_neg hc, e1]
    · obtain rfl : low = high := by omega
      have e : low = rootI n := root_unique ⟨fun h => by omega, fun _ => ⟨h0, hl, hh⟩⟩ (rootI_is n)
      refine Ev.step (f := fun _ => some low) (fun k => ?_) (by rw [e]; exact Ev.now _)
      simp only [spec_RootOf.l0]
      rw [if_neg (by omega)]

theorem spec_ev (n : Int) (h9 : n ≤ 9223372036854775807) : Ev (fun k => spec_RootOf.f k n) (rootI n) := by
  unfold spec_RootOf.f
  by_cases h : n ≤ 0
  · simp only [if_pos h]
    have e : 0 = rootI n := root_unique ⟨fun _ => rfl, fun h' => ⟨by omega, by omega, by omega⟩⟩ (rootI_is n)
    rw [← e]
    exact Ev.now _
  · simp only [if_neg h]
    have e2 : (top + 1) * (top + 1) = 9223372037000250000 := by decide
    exact halves n (by omega) h9 _ 0 top (by omega) (by decide) (Int.le_refl _) (Nat.le_refl _) (by omega) (by omega)

theorem FnExactRootOf : laws_FnExactRootOf.Pure := by
  intro n hw
  have hw' : -9223372036854775808 ≤ n ∧ n ≤ 9223372036854775807 := by
    simpa [Lit.wf, IntKind.min, IntKind.max, IntKind.signed, IntKind.bits] using hw
  refine Ev.rounds (?_ : Ev (fun k => laws_FnExactRootOf.f k n) true)
  unfold laws_FnExactRootOf.f impl_RootOf.f
  refine Ev.bind (spec_ev n hw'.2) ?_
  simp only [if_pos hw', Option.bind_some, if_true]
  exact Ev.now _

end Go.Proofs.Ytmneleafdhgalaa.Pure
