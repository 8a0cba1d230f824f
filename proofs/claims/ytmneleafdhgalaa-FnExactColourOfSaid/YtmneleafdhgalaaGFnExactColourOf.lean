/- What the reading of each argument of FnExactColourOf gives. Written by a program of this repo's (rowgen.py). -/
import Derived.Test.YtmneleafdhgalaaOpen
import Derived.Test.YtmneleafdhgalaaPFnExactColourOfx3
import Derived.KernelRfl
namespace Go.Proofs.Ytmneleafdhgalaa.GFnExactColourOf
open Go.RowKit Go.Proofs.Ytmneleafdhgalaa.PFnExactColourOf Go.Proofs.YtmneleafdhgalaaW.PrintWords Go.Proofs.Ytmneleafdhgalaa.Opn
def good63 (x : S63) : Prop := (Lit.int .i64 x.f0).wf = true ∧ x.f1.size ≤ 9223372036854775807
theorem opens63 : Opens Try.prog 63 k63 good63 :=
  opens_struct Try.underlying63 rfl (by kernel_rfl) (opensF_cons (n := 1) rfl (by kernel_rfl) (opens_int Try.underlying3) (opensF_one (n := 1) rfl (by kernel_rfl) (opens_string Try.underlying9))) (fun x : S63 => (x.f0, x.f1)) (fun p => ⟨p.1, p.2⟩) (fun _ => rfl)
end Go.Proofs.Ytmneleafdhgalaa.GFnExactColourOf
