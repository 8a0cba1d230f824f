/- What the small functions on names and times compute. Written by a program of this repo's (namegen.py). -/
import Derived.Test.YtedfbdholjjflaaEv
import Derived.Test.YtedfbdholjjflaaPFnStrangex2
import Derived.Test.YtedfbdholjjflaaPFnStrangex4
namespace Go.Proofs.Ytedfbdholjjflaa.AFnStrange
open Go.RowKit Go.Proofs.Ytedfbdholjjflaa.PFnStrange Go.Proofs.YtedfbdholjjflaaW.PrintWords Go.Proofs.YtedfbdholjjflaaW.PrintLast Go.Proofs.Ytedfbdholjjflaa.Evs
theorem spec_l3Time_ev (t : Int) : spec_l3Time.f t = some (timeB t) := by
  unfold spec_l3Time.f timeB
  by_cases h : t ≥ 0
  · rw [if_pos h]; simp [show (0 : Int) ≤ t from h]
  · rw [if_neg h]; simp [show ¬ (0 : Int) ≤ t from h]
theorem impl_isTime_ev (t : Int) : impl_isTime.f t = some (timeB t) := by
  unfold impl_isTime.f timeB
  by_cases h : t ≥ 0
  · rw [if_pos h]; simp [show (0 : Int) ≤ t from h]
  · rw [if_neg h]; simp [show ¬ (0 : Int) ≤ t from h]
end Go.Proofs.Ytedfbdholjjflaa.AFnStrange
