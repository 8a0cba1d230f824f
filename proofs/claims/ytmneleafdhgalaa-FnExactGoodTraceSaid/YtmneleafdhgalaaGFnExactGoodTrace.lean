/- What the reading of each argument of FnExactGoodTrace gives. Written by a program of this repo's (rowgen.py). -/
import Derived.Test.YtmneleafdhgalaaOpen
import Derived.Test.YtmneleafdhgalaaPFnExactGoodTracex3
import Derived.KernelRfl
namespace Go.Proofs.Ytmneleafdhgalaa.GFnExactGoodTrace
open Go.RowKit Go.Proofs.Ytmneleafdhgalaa.PFnExactGoodTrace Go.Proofs.YtmneleafdhgalaaW.PrintWords Go.Proofs.Ytmneleafdhgalaa.Opn
def good88 (x : S88) : Prop := (Lit.int .i64 x.f0).wf = true ∧ (Lit.int .i64 x.f1).wf = true ∧ x.f2.size ≤ 9223372036854775807 ∧ x.f3.size ≤ 9223372036854775807 ∧ (Lit.int .i64 x.f4).wf = true ∧ (Lit.int .i64 x.f5).wf = true ∧ True
theorem opens88 : Opens Try.prog 88 k88 good88 :=
  opens_struct Try.underlying88 rfl (by kernel_rfl) (opensF_cons (n := 1) rfl (by kernel_rfl) (opens_int Try.underlying3) (opensF_cons (n := 1) rfl (by kernel_rfl) (opens_int Try.underlying3) (opensF_cons (n := 1) rfl (by kernel_rfl) (opens_string Try.underlying9) (opensF_cons (n := 1) rfl (by kernel_rfl) (opens_string Try.underlying9) (opensF_cons (n := 1) rfl (by kernel_rfl) (opens_int Try.underlying3) (opensF_cons (n := 1) rfl (by kernel_rfl) (opens_int Try.underlying3) (opensF_one (n := 1) rfl (by kernel_rfl) (opens_bool Try.underlying4)))))))) (fun x : S88 => (x.f0, x.f1, x.f2, x.f3, x.f4, x.f5, x.f6)) (fun p => ⟨p.1, p.2.1, p.2.2.1, p.2.2.2.1, p.2.2.2.2.1, p.2.2.2.2.2.1, p.2.2.2.2.2.2⟩) (fun _ => rfl)
abbrev TP47 := (Int) × (List S88)
def goodP47 (p : TP47) : Prop := (Lit.int .i64 p.1).wf = true ∧ GoodL good88 p.2
theorem opensP47 : Opens Try.prog 47 (Kd.iso (Kd.pair (Kd.int .i64) (Kd.slice 88 k88)) (fun x : TP47 => x)) goodP47 :=
  opens_struct Try.underlying47 rfl (by kernel_rfl) (opensF_cons (n := 1) rfl (by kernel_rfl) (opens_int Try.underlying3) (opensF_one (n := 1) rfl (by kernel_rfl) (opens_slice Try.underlying45 (by kernel_rfl) opens88))) (fun x : TP47 => x) (fun p => p) (fun _ => rfl)
theorem cells_agg {l : List Value} {cs : Array Value} (h : l = (Value.agg cs).cells.toList) : cs = l.toArray := by
  subst h
  simp [Value.cells]
end Go.Proofs.Ytmneleafdhgalaa.GFnExactGoodTrace
