/- The program's FnExactSelfTimes: the row. Written by a program of this repo's (rowgen.py): the arguments are opened, the walk and the plain law meet here. -/
import Derived.Test.YtkehglgehbfcmaaRows
import Derived.Test.YtkehglgehbfcmaaGFnExactSelfTimes
import Derived.Test.YtkehglgehbfcmaaPureFnExactSelfTimes
import Derived.WalkKit
import Derived.ProofKit
import Derived.OpenShut
import Derived.ShutString
import Derived.ChangeOld
import Derived.Below
import Derived.SizedLaws
namespace Go.Proofs.Ytkehglgehbfcmaa.fnExactSelfTimes
open Go.ChangeShapes Go.WideShapes Go.ChangeAt Go.RowKit Go.Proofs.Ytkehglgehbfcmaa.Opn Go.Proofs.Ytkehglgehbfcmaa.GFnExactSelfTimes Go.Proofs.Ytkehglgehbfcmaa.PFnExactSelfTimes
open Go.ChangeMaps (open_string shut_string)
set_option linter.unusedVariables false
theorem own : ownKnob Try.prog.godebug = none := by kernel_rfl
theorem laidOut : laidOutB Try.prog = true := by kernel_rfl
set_option maxRecDepth 100000 in
theorem lifted (os : Os) (started : os.Started) (H : Type) (enc : TypeId × Value → H) :
    ReturnsInHanded {} Try.checked os 3 .any (Rows.fnExactSelfTimesSpec.pre6 enc Try.prog Try.f3 Rows.fnExactSelfTimesRow.domain false) (Rows.fnExactSelfTimesSpec.post enc Try.prog Try.f3 false true false false) := by
  refine returnsInHanded_of_change_sized (C := Try.checked) own started (by kernel_rfl) Try.func3
    (ChangeSpec.witness6 (enc := enc) (C := Try.checked) false ⟨#[], #[.agg #[.int .i64 0, .slice none 0 0]], []⟩ 8 (by kernel_rfl) (by kernel_rfl) (by kernel_rfl) (by kernel_rfl)) ?_
  intro W base args ds gs before hval0 hW hcnd hsz0 _
  have hval : ∀ (j : Nat) t v, Try.f3.params[j]? = some t → args[j]? = some v → Value.okWide Try.prog W .any base t v := hval0
  have hW' := hW
  obtain ⟨p, q, hA0, hV, rfl, hfz, hnd⟩ := hW
  have hA : DataW.TrodAll enc Try.prog W 0 (fun _ => true) true Try.f3.params.toList args.toList ds p := hA0
  rw [Try.params3] at hA hval
  obtain ⟨v0, vs0, d0, ds0, p0, q0, hargs, rfl, rfl, h0, r0⟩ := trodAll_cons hA
  obtain ⟨rfl, rfl, rfl⟩ := trodAll_nil r0
  obtain rfl : args = #[v0] := by cases args; simp_all
  obtain ⟨rfl, rfl⟩ := trodVars_none hV
  have k0_ := h0
  have lt0 : ∀ x ∈ p0, x.block < W.heap.size := by obtain ⟨m, hm⟩ := k0_; exact DataW.trod_lt m _ _ _ hm
  obtain ⟨cs0, rfl, hs0⟩ := okWide_struct Try.underlying24 (hval 0 24 v0 rfl rfl)
  obtain ⟨fuel0, hf0⟩ := h0
  obtain ⟨⟨a0_0, l0_1⟩, hK0, ⟨g0_0, g0_1⟩⟩ := opensP24 H enc W fuel0 _ _ hf0
  clear hf0
  obtain ⟨z0, hz0⟩ : ∃ z, z = (Value.agg cs0).cells.toList := ⟨_, rfl⟩
  rw [← hz0] at hK0
  obtain ⟨c_hK0_0, d_hK0_0, e_hK0_0, hK0_0, hK0_0_r⟩ := hK0
  subst e_hK0_0
  obtain rfl := hK0_0
  obtain ⟨A0_1, c0_1, rfl, hc0_1, hC0_1⟩ := hK0_0_r
  obtain rfl := cells_agg hz0
  clear hz0
  obtain ⟨k, hl⟩ := PureFnExactSelfTimes.law a0_0 g0_0 l0_1 g0_1
  refine (laws_FnExactSelfTimes.calls k a0_0 A0_1 c0_1 l0_1 true W hC0_1 hc0_1 hl).mono fun e W' ⟨he, bel0⟩ => ?_
  have bel : Below W.heap.size W W' := by first | exact bel0 | exact bel0.below
  subst he
  exact ⟨_, rfl, _, _, _, [], _, [], hW', trodAll_mk1 (shut_bool Try.underlying4 _), (trodAll_cons_mk (Below.trod laidOut (by kernel_rfl) (of_decide_eq_true (by kernel_rfl)) k0_ bel lt0) trodAll_mk0), rfl, bel.frame _, fun h => by cases h⟩
theorem over : Rows.fnExactSelfTimesRow.holds Try.pinned (OpenSpec.ofChange Rows.fnExactSelfTimesSpec) :=
  OpenClaim.holds_of_wide 3 Try.f3 rfl rfl rfl rfl rfl rfl rfl ⟨rfl, rfl, rfl, rfl, rfl⟩ rfl rfl rfl rfl rfl (by kernel_rfl) Try.func3 (by kernel_rfl)
    (of_decide_eq_true (by kernel_rfl)) (by unfold Func.isWrapper; first | (rw [if_pos (by decide +kernel)]; kernel_rfl) | (rw [if_neg (by decide +kernel)]; exact ⟨rfl, rfl⟩))
    (fun os started H enc _ => lifted os started H enc)
theorem proved : Rows.FnExactSelfTimesSaid := over
end Go.Proofs.Ytkehglgehbfcmaa.fnExactSelfTimes
namespace Go.Proofs.Ytkehglgehbfcmaa
/-- The row, under a short name, for the claim. -/
theorem fnExactSelfTimes_holds : Rows.FnExactSelfTimesSaid := fnExactSelfTimes.proved
end Go.Proofs.Ytkehglgehbfcmaa
