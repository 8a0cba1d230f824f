/- What the reading of each argument of FnExactStrangeIn gives. Written by a program of this repo's (rowgen.py). -/
import Derived.Test.YtknongbllpencaaOpen
import Derived.Test.YtknongbllpencaaPFnExactStrangeInx5
import Derived.KernelRfl
namespace Go.Proofs.Ytknongbllpencaa.GFnExactStrangeIn
open Go.RowKit Go.Proofs.Ytknongbllpencaa.PFnExactStrangeIn Go.Proofs.YtknongbllpencaaW.PrintWords Go.Proofs.Ytknongbllpencaa.Opn
def good37 (x : S37) : Prop := (Lit.int .i64 x.f0).wf = true ∧ (Lit.int .i64 x.f1).wf = true
theorem opens37 : Opens Try.prog 37 k37 good37 :=
  opens_struct Try.underlying37 rfl (by kernel_rfl) (opensF_cons (n := 1) rfl (by kernel_rfl) (opens_int Try.underlying3) (opensF_one (n := 1) rfl (by kernel_rfl) (opens_int Try.underlying3))) (fun x : S37 => (x.f0, x.f1)) (fun p => ⟨p.1, p.2⟩) (fun _ => rfl)
end Go.Proofs.Ytknongbllpencaa.GFnExactStrangeIn
