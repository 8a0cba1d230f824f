/- What the reading of each argument of FnExactGoodGoal gives. Written by a program of this repo's (rowgen.py). -/
import Derived.Test.YtjpgflljnljpgaaOpen
import Derived.Test.YtjpgflljnljpgaaPFnExactGoodGoalx9
import Derived.KernelRfl
namespace Go.Proofs.Ytjpgflljnljpgaa.GFnExactGoodGoal
open Go.RowKit Go.Proofs.Ytjpgflljnljpgaa.PFnExactGoodGoal Go.Proofs.YtjpgflljnljpgaaW.PrintWords Go.Proofs.Ytjpgflljnljpgaa.Opn
def good53 (x : S53) : Prop := x.f0.size ≤ 9223372036854775807 ∧ (Lit.int .i64 x.f1).wf = true ∧ x.f2.size ≤ 9223372036854775807
theorem opens53 : Opens Try.prog 53 k53 good53 :=
  opens_struct Try.underlying53 rfl (by kernel_rfl) (opensF_cons (n := 1) rfl (by kernel_rfl) (opens_string Try.underlying9) (opensF_cons (n := 1) rfl (by kernel_rfl) (opens_int Try.underlying3) (opensF_one (n := 1) rfl (by kernel_rfl) (opens_string Try.underlying9)))) (fun x : S53 => (x.f0, x.f1, x.f2)) (fun p => ⟨p.1, p.2.1, p.2.2⟩) (fun _ => rfl)
def good57 (x : S57) : Prop := (Lit.int .i64 x.f0).wf = true ∧ (Lit.int .i64 x.f1).wf = true ∧ (Lit.int .i64 x.f2).wf = true ∧ (Lit.int .i64 x.f3).wf = true
theorem opens57 : Opens Try.prog 57 k57 good57 :=
  opens_struct Try.underlying57 rfl (by kernel_rfl) (opensF_cons (n := 1) rfl (by kernel_rfl) (opens_int Try.underlying3) (opensF_cons (n := 1) rfl (by kernel_rfl) (opens_int Try.underlying3) (opensF_cons (n := 1) rfl (by kernel_rfl) (opens_int Try.underlying3) (opensF_one (n := 1) rfl (by kernel_rfl) (opens_int Try.underlying3))))) (fun x : S57 => (x.f0, x.f1, x.f2, x.f3)) (fun p => ⟨p.1, p.2.1, p.2.2.1, p.2.2.2⟩) (fun _ => rfl)
abbrev TP25 := (ByteArray) × (Int) × (Int) × (ByteArray) × (ByteArray) × (List S53) × (List S57)
def goodP25 (p : TP25) : Prop := p.1.size ≤ 9223372036854775807 ∧ (Lit.int .i64 p.2.1).wf = true ∧ (Lit.int .i64 p.2.2.1).wf = true ∧ p.2.2.2.1.size ≤ 9223372036854775807 ∧ p.2.2.2.2.1.size ≤ 9223372036854775807 ∧ GoodL good53 p.2.2.2.2.2.1 ∧ GoodL good57 p.2.2.2.2.2.2
theorem opensP25 : Opens Try.prog 25 (Kd.iso (Kd.pair Kd.string (Kd.pair (Kd.int .i64) (Kd.pair (Kd.int .i64) (Kd.pair Kd.string (Kd.pair Kd.string (Kd.pair (Kd.slice 53 k53) (Kd.slice 57 k57))))))) (fun x : TP25 => x)) goodP25 :=
  opens_struct Try.underlying25 rfl (by kernel_rfl) (opensF_cons (n := 1) rfl (by kernel_rfl) (opens_string Try.underlying9) (opensF_cons (n := 1) rfl (by kernel_rfl) (opens_int Try.underlying3) (opensF_cons (n := 1) rfl (by kernel_rfl) (opens_int Try.underlying3) (opensF_cons (n := 1) rfl (by kernel_rfl) (opens_string Try.underlying9) (opensF_cons (n := 1) rfl (by kernel_rfl) (opens_string Try.underlying9) (opensF_cons (n := 1) rfl (by kernel_rfl) (opens_slice Try.underlying22 (by kernel_rfl) opens53) (opensF_one (n := 1) rfl (by kernel_rfl) (opens_slice Try.underlying23 (by kernel_rfl) opens57)))))))) (fun x : TP25 => x) (fun p => p) (fun _ => rfl)
theorem cells_agg {l : List Value} {cs : Array Value} (h : l = (Value.agg cs).cells.toList) : cs = l.toArray := by
  subst h
  simp [Value.cells]
end Go.Proofs.Ytjpgflljnljpgaa.GFnExactGoodGoal
