/- What the reading of each argument of FnExactKeepTraces gives. Written by a program of this repo's (rowgen.py). -/
import Derived.Test.YthcamcmjafhehaaDoorOpen
import Derived.Test.YthcamcmjafhehaaDoorPFnExactKeepTracesx9
import Derived.KernelRfl
namespace Go.Proofs.YthcamcmjafhehaaDoor.GFnExactKeepTraces
open Go.RowKit Go.Proofs.YthcamcmjafhehaaDoor.PFnExactKeepTraces Go.Proofs.YthcamcmjafhehaaDoorW.PrintWords Go.Proofs.YthcamcmjafhehaaDoor.Opn
def good41 (x : S41) : Prop := (Lit.int .i64 x.f0).wf = true ∧ (Lit.int .i64 x.f1).wf = true ∧ x.f2.size ≤ 9223372036854775807
theorem opens41 : Opens Tryd.prog 41 k41 good41 :=
  opens_struct Tryd.underlying41 rfl (by kernel_rfl) (opensF_cons (n := 1) rfl (by kernel_rfl) (opens_int Tryd.underlying3) (opensF_cons (n := 1) rfl (by kernel_rfl) (opens_int Tryd.underlying3) (opensF_one (n := 1) rfl (by kernel_rfl) (opens_string Tryd.underlying9)))) (fun x : S41 => (x.f0, x.f1, x.f2)) (fun p => ⟨p.1, p.2.1, p.2.2⟩) (fun _ => rfl)
def good82 (x : S82) : Prop := (Lit.int .i64 x.f0).wf = true ∧ (Lit.int .i64 x.f1).wf = true ∧ x.f2.size ≤ 9223372036854775807 ∧ x.f3.size ≤ 9223372036854775807 ∧ (Lit.int .i64 x.f4).wf = true ∧ (Lit.int .i64 x.f5).wf = true ∧ True
theorem opens82 : Opens Tryd.prog 82 k82 good82 :=
  opens_struct Tryd.underlying82 rfl (by kernel_rfl) (opensF_cons (n := 1) rfl (by kernel_rfl) (opens_int Tryd.underlying3) (opensF_cons (n := 1) rfl (by kernel_rfl) (opens_int Tryd.underlying3) (opensF_cons (n := 1) rfl (by kernel_rfl) (opens_string Tryd.underlying9) (opensF_cons (n := 1) rfl (by kernel_rfl) (opens_string Tryd.underlying9) (opensF_cons (n := 1) rfl (by kernel_rfl) (opens_int Tryd.underlying3) (opensF_cons (n := 1) rfl (by kernel_rfl) (opens_int Tryd.underlying3) (opensF_one (n := 1) rfl (by kernel_rfl) (opens_bool Tryd.underlying4)))))))) (fun x : S82 => (x.f0, x.f1, x.f2, x.f3, x.f4, x.f5, x.f6)) (fun p => ⟨p.1, p.2.1, p.2.2.1, p.2.2.2.1, p.2.2.2.2.1, p.2.2.2.2.2.1, p.2.2.2.2.2.2⟩) (fun _ => rfl)
def good45 (x : S45) : Prop := (Lit.int .i64 x.f0).wf = true ∧ GoodL good82 x.f1
theorem opens45 : Opens Tryd.prog 45 k45 good45 :=
  opens_struct Tryd.underlying45 rfl (by kernel_rfl) (opensF_cons (n := 1) rfl (by kernel_rfl) (opens_int Tryd.underlying3) (opensF_one (n := 1) rfl (by kernel_rfl) (opens_slice Tryd.underlying43 (by kernel_rfl) opens82))) (fun x : S45 => (x.f0, x.f1)) (fun p => ⟨p.1, p.2⟩) (fun _ => rfl)
end Go.Proofs.YthcamcmjafhehaaDoor.GFnExactKeepTraces
