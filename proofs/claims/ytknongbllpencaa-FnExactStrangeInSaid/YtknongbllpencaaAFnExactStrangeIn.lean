/- What the small functions on names and times compute. Written by a program of this repo's (namegen.py). -/
import Derived.Test.YtknongbllpencaaEv
import Derived.Test.YtknongbllpencaaPFnExactStrangeInx1
import Derived.Test.YtknongbllpencaaPFnExactStrangeInx2
namespace Go.Proofs.Ytknongbllpencaa.AFnExactStrangeIn
open Go.RowKit Go.Proofs.Ytknongbllpencaa.PFnExactStrangeIn Go.Proofs.YtknongbllpencaaW.PrintWords Go.Proofs.YtknongbllpencaaW.PrintLast Go.Proofs.Ytknongbllpencaa.Evs
theorem spec_l3Time_ev (t : Int) : spec_l3Time.f t = some (timeB t) := by
  unfold spec_l3Time.f timeB
  by_cases h : t ≥ 0
  · rw [if_pos h]; simp [show (0 : Int) ≤ t from h]
  · rw [if_neg h]; simp [show ¬ (0 : Int) ≤ t from h]
theorem impl_isTime_ev (t : Int) : impl_isTime.f t = some (timeB t) := by
  unfold impl_isTime.f timeB
  by_cases h : t ≥ 0
  · rw [if_pos h]; simp [show (0 : Int) ≤ t from h]
  · rw [if_neg h]; simp [show ¬ (0 : Int) ≤ t from h]
end Go.Proofs.Ytknongbllpencaa.AFnExactStrangeIn
