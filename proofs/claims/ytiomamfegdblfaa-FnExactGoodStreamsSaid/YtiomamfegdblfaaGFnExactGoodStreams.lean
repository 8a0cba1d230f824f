/- What the reading of each argument of FnExactGoodStreams gives. Written by a program of this repo's (rowgen.py). -/
import Derived.Test.YtiomamfegdblfaaOpen
import Derived.Test.YtiomamfegdblfaaPFnExactGoodStreamsx8
import Derived.KernelRfl
namespace Go.Proofs.Ytiomamfegdblfaa.GFnExactGoodStreams
open Go.RowKit Go.Proofs.Ytiomamfegdblfaa.PFnExactGoodStreams Go.Proofs.YtiomamfegdblfaaW.PrintWords Go.Proofs.Ytiomamfegdblfaa.Opn
def good59 (x : S59) : Prop := x.f0.size ≤ 9223372036854775807 ∧ x.f1.size ≤ 9223372036854775807
theorem opens59 : Opens Try.prog 59 k59 good59 :=
  opens_struct Try.underlying59 rfl (by kernel_rfl) (opensF_cons (n := 1) rfl (by kernel_rfl) (opens_string Try.underlying9) (opensF_one (n := 1) rfl (by kernel_rfl) (opens_string Try.underlying9))) (fun x : S59 => (x.f0, x.f1)) (fun p => ⟨p.1, p.2⟩) (fun _ => rfl)
def good61 (x : S61) : Prop := (Lit.int .i64 x.f0).wf = true ∧ x.f1.size ≤ 9223372036854775807
theorem opens61 : Opens Try.prog 61 k61 good61 :=
  opens_struct Try.underlying61 rfl (by kernel_rfl) (opensF_cons (n := 1) rfl (by kernel_rfl) (opens_int Try.underlying3) (opensF_one (n := 1) rfl (by kernel_rfl) (opens_string Try.underlying9))) (fun x : S61 => (x.f0, x.f1)) (fun p => ⟨p.1, p.2⟩) (fun _ => rfl)
def good33 (x : S33) : Prop := GoodL good59 x.f0 ∧ GoodL good61 x.f1
theorem opens33 : Opens Try.prog 33 k33 good33 :=
  opens_struct Try.underlying33 rfl (by kernel_rfl) (opensF_cons (n := 1) rfl (by kernel_rfl) (opens_slice Try.underlying30 (by kernel_rfl) opens59) (opensF_one (n := 1) rfl (by kernel_rfl) (opens_slice Try.underlying31 (by kernel_rfl) opens61))) (fun x : S33 => (x.f0, x.f1)) (fun p => ⟨p.1, p.2⟩) (fun _ => rfl)
end Go.Proofs.Ytiomamfegdblfaa.GFnExactGoodStreams
