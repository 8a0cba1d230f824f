/- What the reading of each argument of FnExactGoodBoard gives. Written by a program of this repo's (rowgen.py). -/
import Derived.Test.YtcemokegafijnaaOpen
import Derived.Test.YtcemokegafijnaaPFnExactGoodBoardx8
import Derived.KernelRfl
namespace Go.Proofs.Ytcemokegafijnaa.GFnExactGoodBoard
open Go.RowKit Go.Proofs.Ytcemokegafijnaa.PFnExactGoodBoard Go.Proofs.YtcemokegafijnaaW.PrintWords Go.Proofs.Ytcemokegafijnaa.Opn
def good54 (x : S54) : Prop := x.f0.size ≤ 9223372036854775807 ∧ x.f1.size ≤ 9223372036854775807 ∧ GoodL (fun x => x.size ≤ 9223372036854775807) x.f2
theorem opens54 : Opens Try.prog 54 k54 good54 :=
  opens_struct Try.underlying54 rfl (by kernel_rfl) (opensF_cons (n := 1) rfl (by kernel_rfl) (opens_string Try.underlying9) (opensF_cons (n := 1) rfl (by kernel_rfl) (opens_string Try.underlying9) (opensF_one (n := 1) rfl (by kernel_rfl) (opens_slice Try.underlying37 (by kernel_rfl) (opens_string Try.underlying9))))) (fun x : S54 => (x.f0, x.f1, x.f2)) (fun p => ⟨p.1, p.2.1, p.2.2⟩) (fun _ => rfl)
def good75 (x : S75) : Prop := (Lit.int .i64 x.f0).wf = true ∧ x.f1.size ≤ 9223372036854775807
theorem opens75 : Opens Try.prog 75 k75 good75 :=
  opens_struct Try.underlying75 rfl (by kernel_rfl) (opensF_cons (n := 1) rfl (by kernel_rfl) (opens_int Try.underlying3) (opensF_one (n := 1) rfl (by kernel_rfl) (opens_string Try.underlying9))) (fun x : S75 => (x.f0, x.f1)) (fun p => ⟨p.1, p.2⟩) (fun _ => rfl)
def good58 (x : S58) : Prop := x.f0.size ≤ 9223372036854775807 ∧ x.f1.size ≤ 9223372036854775807 ∧ (Lit.int .i64 x.f2).wf = true ∧ GoodL good75 x.f3
theorem opens58 : Opens Try.prog 58 k58 good58 :=
  opens_struct Try.underlying58 rfl (by kernel_rfl) (opensF_cons (n := 1) rfl (by kernel_rfl) (opens_string Try.underlying9) (opensF_cons (n := 1) rfl (by kernel_rfl) (opens_string Try.underlying9) (opensF_cons (n := 1) rfl (by kernel_rfl) (opens_int Try.underlying3) (opensF_one (n := 1) rfl (by kernel_rfl) (opens_slice Try.underlying56 (by kernel_rfl) opens75))))) (fun x : S58 => (x.f0, x.f1, x.f2, x.f3)) (fun p => ⟨p.1, p.2.1, p.2.2.1, p.2.2.2⟩) (fun _ => rfl)
abbrev TP25 := (List S54) × (List S58)
def goodP25 (p : TP25) : Prop := GoodL good54 p.1 ∧ GoodL good58 p.2
theorem opensP25 : Opens Try.prog 25 (Kd.iso (Kd.pair (Kd.slice 54 k54) (Kd.slice 58 k58)) (fun x : TP25 => x)) goodP25 :=
  opens_struct Try.underlying25 rfl (by kernel_rfl) (opensF_cons (n := 1) rfl (by kernel_rfl) (opens_slice Try.underlying22 (by kernel_rfl) opens54) (opensF_one (n := 1) rfl (by kernel_rfl) (opens_slice Try.underlying23 (by kernel_rfl) opens58))) (fun x : TP25 => x) (fun p => p) (fun _ => rfl)
theorem cells_agg {l : List Value} {cs : Array Value} (h : l = (Value.agg cs).cells.toList) : cs = l.toArray := by
  subst h
  simp [Value.cells]
end Go.Proofs.Ytcemokegafijnaa.GFnExactGoodBoard
