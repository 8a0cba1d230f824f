/- What the reading of each argument of FnExactSelfTimes gives. Written by a program of this repo's (rowgen.py). -/
import Derived.Test.YtkehglgehbfcmaaOpen
import Derived.Test.YtkehglgehbfcmaaPFnExactSelfTimesx6
import Derived.KernelRfl
namespace Go.Proofs.Ytkehglgehbfcmaa.GFnExactSelfTimes
open Go.RowKit Go.Proofs.Ytkehglgehbfcmaa.PFnExactSelfTimes Go.Proofs.YtkehglgehbfcmaaW.PrintWords Go.Proofs.Ytkehglgehbfcmaa.Opn
def good52 (x : S52) : Prop := (Lit.int .i64 x.f0).wf = true ∧ (Lit.int .i64 x.f1).wf = true ∧ x.f2.size ≤ 9223372036854775807 ∧ x.f3.size ≤ 9223372036854775807 ∧ (Lit.int .i64 x.f4).wf = true ∧ (Lit.int .i64 x.f5).wf = true ∧ True
theorem opens52 : Opens Try.prog 52 k52 good52 :=
  opens_struct Try.underlying52 rfl (by kernel_rfl) (opensF_cons (n := 1) rfl (by kernel_rfl) (opens_int Try.underlying3) (opensF_cons (n := 1) rfl (by kernel_rfl) (opens_int Try.underlying3) (opensF_cons (n := 1) rfl (by kernel_rfl) (opens_string Try.underlying9) (opensF_cons (n := 1) rfl (by kernel_rfl) (opens_string Try.underlying9) (opensF_cons (n := 1) rfl (by kernel_rfl) (opens_int Try.underlying3) (opensF_cons (n := 1) rfl (by kernel_rfl) (opens_int Try.underlying3) (opensF_one (n := 1) rfl (by kernel_rfl) (opens_bool Try.underlying4)))))))) (fun x : S52 => (x.f0, x.f1, x.f2, x.f3, x.f4, x.f5, x.f6)) (fun p => ⟨p.1, p.2.1, p.2.2.1, p.2.2.2.1, p.2.2.2.2.1, p.2.2.2.2.2.1, p.2.2.2.2.2.2⟩) (fun _ => rfl)
abbrev TP24 := (Int) × (List S52)
def goodP24 (p : TP24) : Prop := (Lit.int .i64 p.1).wf = true ∧ GoodL good52 p.2
theorem opensP24 : Opens Try.prog 24 (Kd.iso (Kd.pair (Kd.int .i64) (Kd.slice 52 k52)) (fun x : TP24 => x)) goodP24 :=
  opens_struct Try.underlying24 rfl (by kernel_rfl) (opensF_cons (n := 1) rfl (by kernel_rfl) (opens_int Try.underlying3) (opensF_one (n := 1) rfl (by kernel_rfl) (opens_slice Try.underlying22 (by kernel_rfl) opens52))) (fun x : TP24 => x) (fun p => p) (fun _ => rfl)
theorem cells_agg {l : List Value} {cs : Array Value} (h : l = (Value.agg cs).cells.toList) : cs = l.toArray := by
  subst h
  simp [Value.cells]
end Go.Proofs.Ytkehglgehbfcmaa.GFnExactSelfTimes
