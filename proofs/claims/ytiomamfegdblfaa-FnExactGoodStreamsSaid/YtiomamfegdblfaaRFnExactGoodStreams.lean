/- The program's FnExactGoodStreams: the row. Written by a program of this repo's (rowgen.py): the arguments are opened, the walk and the plain law meet here. -/
import Derived.Test.YtiomamfegdblfaaRows
import Derived.Test.YtiomamfegdblfaaGFnExactGoodStreams
import Derived.Test.YtiomamfegdblfaaPureFnExactGoodStreams
import Derived.WalkKit
import Derived.ProofKit
import Derived.OpenShut
import Derived.ShutString
import Derived.ChangeOld
import Derived.Below
import Derived.SizedLaws
namespace Go.Proofs.Ytiomamfegdblfaa.fnExactGoodStreams
open Go.ChangeShapes Go.WideShapes Go.ChangeAt Go.RowKit Go.Proofs.Ytiomamfegdblfaa.Opn Go.Proofs.Ytiomamfegdblfaa.GFnExactGoodStreams Go.Proofs.Ytiomamfegdblfaa.PFnExactGoodStreams
open Go.ChangeMaps (open_string shut_string)
set_option linter.unusedVariables false
theorem own : ownKnob Try.prog.godebug = none := by kernel_rfl
theorem laidOut : laidOutB Try.prog = true := by kernel_rfl
set_option maxRecDepth 100000 in
theorem lifted (os : Os) (started : os.Started) (H : Type) (enc : TypeId × Value → H) :
    ReturnsInHanded {} Try.checked os 3 .any (Rows.fnExactGoodStreamsSpec.pre6 enc Try.prog Try.f3 Rows.fnExactGoodStreamsRow.domain false) (Rows.fnExactGoodStreamsSpec.post enc Try.prog Try.f3 false true false false) := by
  refine returnsInHanded_of_change_sized (C := Try.checked) own started (by kernel_rfl) Try.func3
    (ChangeSpec.witness6 (enc := enc) (C := Try.checked) false ⟨#[], #[.slice none 0 0], []⟩ 8 (by kernel_rfl) (by kernel_rfl) (by kernel_rfl) (by kernel_rfl)) ?_
  intro W base args ds gs before hval0 hW hcnd hsz0 _
  have hval : ∀ (j : Nat) t v, Try.f3.params[j]? = some t → args[j]? = some v → Value.okWide Try.prog W .any base t v := hval0
  have hW' := hW
  obtain ⟨p, q, hA0, hV, rfl, hfz, hnd⟩ := hW
  have hA : DataW.TrodAll enc Try.prog W 0 (fun _ => true) true Try.f3.params.toList args.toList ds p := hA0
  rw [Try.params3] at hA hval
  obtain ⟨v0, vs0, d0, ds0, p0, q0, hargs, rfl, rfl, h0, r0⟩ := trodAll_cons hA
  obtain ⟨rfl, rfl, rfl⟩ := trodAll_nil r0
  obtain rfl : args = #[v0] := by cases args; simp_all
  obtain ⟨rfl, rfl⟩ := trodVars_none hV
  have k0_ := h0
  have lt0 : ∀ x ∈ p0, x.block < W.heap.size := by obtain ⟨m, hm⟩ := k0_; exact DataW.trod_lt m _ _ _ hm
  obtain ⟨A0, len0, c0, rfl⟩ := okWide_slice Try.underlying22 (hval 0 22 v0 rfl rfl)
  obtain ⟨fuel0, hf0⟩ := h0
  obtain ⟨l0, hK0, g0⟩ := (opens_slice Try.underlying22 (by kernel_rfl) opens33) H enc W fuel0 _ _ hf0
  obtain ⟨rfl, hc0, hC0⟩ := slice_arg hK0
  clear hf0 hK0
  obtain ⟨k, hl⟩ := PureFnExactGoodStreams.law l0 g0
  refine (laws_FnExactGoodStreams.calls k A0 c0 l0 true W hC0 hc0 hl).mono fun e W' ⟨he, bel0⟩ => ?_
  have bel : Below W.heap.size W W' := by first | exact bel0 | exact bel0.below
  subst he
  exact ⟨_, rfl, _, _, _, [], _, [], hW', trodAll_mk1 (shut_bool Try.underlying4 _), (trodAll_cons_mk (Below.trod laidOut (by kernel_rfl) (of_decide_eq_true (by kernel_rfl)) k0_ bel lt0) trodAll_mk0), rfl, bel.frame _, fun h => by cases h⟩
theorem over : Rows.fnExactGoodStreamsRow.holds Try.pinned (OpenSpec.ofChange Rows.fnExactGoodStreamsSpec) :=
  OpenClaim.holds_of_wide 3 Try.f3 rfl rfl rfl rfl rfl rfl rfl ⟨rfl, rfl, rfl, rfl, rfl⟩ rfl rfl rfl rfl rfl (by kernel_rfl) Try.func3 (by kernel_rfl)
    (of_decide_eq_true (by kernel_rfl)) (by unfold Func.isWrapper; first | (rw [if_pos (by decide +kernel)]; kernel_rfl) | (rw [if_neg (by decide +kernel)]; exact ⟨rfl, rfl⟩))
    (fun os started H enc _ => lifted os started H enc)
theorem proved : Rows.FnExactGoodStreamsSaid := over
end Go.Proofs.Ytiomamfegdblfaa.fnExactGoodStreams
namespace Go.Proofs.Ytiomamfegdblfaa
/-- The row, under a short name, for the claim. -/
theorem fnExactGoodStreams_holds : Rows.FnExactGoodStreamsSaid := fnExactGoodStreams.proved
end Go.Proofs.Ytiomamfegdblfaa
