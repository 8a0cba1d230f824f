/- What the reading of each argument of FnExactGoodPipe gives. Written by a program of this repo's (rowgen.py). -/
import Derived.Test.YtafphfdnoejdeaaOpen
import Derived.Test.YtafphfdnoejdeaaPFnExactGoodPipex14
import Derived.KernelRfl
namespace Go.Proofs.Ytafphfdnoejdeaa.GFnExactGoodPipe
open Go.RowKit Go.Proofs.Ytafphfdnoejdeaa.PFnExactGoodPipe Go.Proofs.YtafphfdnoejdeaaW.PrintWords Go.Proofs.Ytafphfdnoejdeaa.Opn
def good50 (x : S50) : Prop := x.f0.size ≤ 9223372036854775807 ∧ (Lit.int .i64 x.f1).wf = true ∧ x.f2.size ≤ 9223372036854775807
theorem opens50 : Opens Try.prog 50 k50 good50 :=
 opens_struct Try.underlying50 rfl (by kernel_rfl) (opensF_cons (n := 1) rfl (by kernel_rfl) (opens_string Try.underlying9) (opensF_cons (n := 1) rfl (by kernel_rfl) (opens_int Try.underlying3) (opensF_one (n := 1) rfl (by kernel_rfl) (opens_string Try.underlying9)))) (fun x : S50 => (x.f0, x.f1, x.f2)) (fun p => ⟨p.1, p.2.1, p.2.2⟩) (fun _ => rfl)
def good53 (x : S53) : Prop := (Lit.int .i64 x.f0).wf = true ∧ x.f1.size ≤ 9223372036854775807 ∧ good50 x.f2 ∧ (Lit.int .i64 x.f3).wf = true ∧ (Lit.int .i64 x.f4).wf = true ∧ GoodL (fun x => x.size ≤ 9223372036854775807) x.f5
theorem opens53 : Opens Try.prog 53 k53 good53 :=
 opens_struct Try.underlying53 rfl (by kernel_rfl) (opensF_cons (n := 1) rfl (by kernel_rfl) (opens_int Try.underlying3) (opensF_cons (n := 1) rfl (by kernel_rfl) (opens_string Try.underlying9) (opensF_cons (n := 3) rfl (by kernel_rfl) opens50 (opensF_cons (n := 1) rfl (by kernel_rfl) (opens_int Try.underlying3) (opensF_cons (n := 1) rfl (by kernel_rfl) (opens_int Try.underlying3) (opensF_one (n := 1) rfl (by kernel_rfl) (opens_slice Try.underlying40 (by kernel_rfl) (opens_string Try.underlying9)))))))) (fun x : S53 => (x.f0, x.f1, x.f2, x.f3, x.f4, x.f5)) (fun p => ⟨p.1, p.2.1, p.2.2.1, p.2.2.2.1, p.2.2.2.2.1, p.2.2.2.2.2⟩) (fun _ => rfl)
abbrev TP25 := (List S50) × (List S53)
def goodP25 (p : TP25) : Prop := GoodL good50 p.1 ∧ GoodL good53 p.2
theorem opensP25 : Opens Try.prog 25 (Kd.iso (Kd.pair (Kd.slice 50 k50) (Kd.slice 53 k53)) (fun x : TP25 => x)) goodP25 :=
 opens_struct Try.underlying25 rfl (by kernel_rfl) (opensF_cons (n := 1) rfl (by kernel_rfl) (opens_slice Try.underlying22 (by kernel_rfl) opens50) (opensF_one (n := 1) rfl (by kernel_rfl) (opens_slice Try.underlying23 (by kernel_rfl) opens53))) (fun x : TP25 => x) (fun p => p) (fun _ => rfl)
theorem cells_agg {l : List Value} {cs : Array Value} (h : l = (Value.agg cs).cells.toList) : cs = l.toArray := by
 subst h
 simp [Value.cells]
end Go.Proofs.Ytafphfdnoejdeaa.GFnExactGoodPipe
