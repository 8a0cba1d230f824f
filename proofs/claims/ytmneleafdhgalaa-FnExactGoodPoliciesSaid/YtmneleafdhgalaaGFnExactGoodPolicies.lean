/- What the reading of each argument of FnExactGoodPolicies gives. Written by a program of this repo's (rowgen.py). -/
import Derived.Test.YtmneleafdhgalaaOpen
import Derived.Test.YtmneleafdhgalaaPFnExactGoodPoliciesx3
import Derived.KernelRfl
namespace Go.Proofs.Ytmneleafdhgalaa.GFnExactGoodPolicies
open Go.RowKit Go.Proofs.Ytmneleafdhgalaa.PFnExactGoodPolicies Go.Proofs.YtmneleafdhgalaaW.PrintWords Go.Proofs.Ytmneleafdhgalaa.Opn
def good70 (x : S70) : Prop := (Lit.int .i64 x.f0).wf = true ∧ (Lit.int .i64 x.f1).wf = true ∧ x.f2.size ≤ 9223372036854775807
theorem opens70 : Opens Try.prog 70 k70 good70 :=
  opens_struct Try.underlying70 rfl (by kernel_rfl) (opensF_cons (n := 1) rfl (by kernel_rfl) (opens_int Try.underlying3) (opensF_cons (n := 1) rfl (by kernel_rfl) (opens_int Try.underlying3) (opensF_one (n := 1) rfl (by kernel_rfl) (opens_string Try.underlying9)))) (fun x : S70 => (x.f0, x.f1, x.f2)) (fun p => ⟨p.1, p.2.1, p.2.2⟩) (fun _ => rfl)
end Go.Proofs.Ytmneleafdhgalaa.GFnExactGoodPolicies
