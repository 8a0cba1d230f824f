/- The program's FnExactGoodGoal: the row. Written by a program of this repo's (rowgen.py): the arguments are opened, the walk and the plain law meet here. -/
import Derived.Test.YtjpgflljnljpgaaRows
import Derived.Test.YtjpgflljnljpgaaGFnExactGoodGoal
import Derived.Test.YtjpgflljnljpgaaPureFnExactGoodGoal
import Derived.WalkKit
import Derived.ProofKit
import Derived.OpenShut
import Derived.ShutString
import Derived.ChangeOld
import Derived.Below
import Derived.SizedLaws
namespace Go.Proofs.Ytjpgflljnljpgaa.fnExactGoodGoal
open Go.ChangeShapes Go.WideShapes Go.ChangeAt Go.RowKit Go.Proofs.Ytjpgflljnljpgaa.Opn Go.Proofs.Ytjpgflljnljpgaa.GFnExactGoodGoal Go.Proofs.Ytjpgflljnljpgaa.PFnExactGoodGoal
open Go.ChangeMaps (open_string shut_string)
set_option linter.unusedVariables false
theorem own : ownKnob Try.prog.godebug = none := by kernel_rfl
theorem laidOut : laidOutB Try.prog = true := by kernel_rfl
set_option maxRecDepth 100000 in
theorem lifted (os : Os) (started : os.Started) (H : Type) (enc : TypeId × Value → H) :
    ReturnsInHanded {} Try.checked os 3 .any (Rows.fnExactGoodGoalSpec.pre6 enc Try.prog Try.f3 Rows.fnExactGoodGoalRow.domain false) (Rows.fnExactGoodGoalSpec.post enc Try.prog Try.f3 false true false false) := by
  refine returnsInHanded_of_change_sized (C := Try.checked) own started (by kernel_rfl) Try.func3
    (ChangeSpec.witness6 (enc := enc) (C := Try.checked) false ⟨#[], #[.agg #[.string ByteArray.empty, .int .i64 0, .int .i64 0, .string ByteArray.empty, .string ByteArray.empty, .slice none 0 0, .slice none 0 0]], []⟩ 8 (by kernel_rfl) (by kernel_rfl) (by kernel_rfl) (by kernel_rfl)) ?_
  intro W base args ds gs before hval0 hW hcnd hsz0 _
  have hval : ∀ (j : Nat) t v, Try.f3.params[j]? = some t → args[j]? = some v → Value.okWide Try.prog W .any base t v := hval0
  have hW' := hW
  obtain ⟨p, q, hA0, hV, rfl, hfz, hnd⟩ := hW
  have hA : DataW.TrodAll enc Try.prog W 0 (fun _ => true) true Try.f3.params.toList args.toList ds p := hA0
  rw [Try.params3] at hA hval
  obtain ⟨v0, vs0, d0, ds0, p0, q0, hargs, rfl, rfl, h0, r0⟩ := trodAll_cons hA
  obtain ⟨rfl, rfl, rfl⟩ := trodAll_nil r0
  obtain rfl : args = #[v0] := by cases args; simp_all
  obtain ⟨rfl, rfl⟩ := trodVars_none hV
  have k0_ := h0
  have lt0 : ∀ x ∈ p0, x.block < W.heap.size := by obtain ⟨m, hm⟩ := k0_; exact DataW.trod_lt m _ _ _ hm
  obtain ⟨cs0, rfl, hs0⟩ := okWide_struct Try.underlying25 (hval 0 25 v0 rfl rfl)
  obtain ⟨fuel0, hf0⟩ := h0
  obtain ⟨⟨a0_0, a0_1, a0_2, a0_3, a0_4, l0_5, l0_6⟩, hK0, ⟨g0_0, g0_1, g0_2, g0_3, g0_4, g0_5, g0_6⟩⟩ := opensP25 H enc W fuel0 _ _ hf0
  clear hf0
  obtain ⟨z0, hz0⟩ : ∃ z, z = (Value.agg cs0).cells.toList := ⟨_, rfl⟩
  rw [← hz0] at hK0
  obtain ⟨c_hK0_0, d_hK0_0, e_hK0_0, hK0_0, hK0_0_r⟩ := hK0
  subst e_hK0_0
  obtain rfl := hK0_0
  obtain ⟨c_hK0_1, d_hK0_1, e_hK0_1, hK0_1, hK0_1_r⟩ := hK0_0_r
  subst e_hK0_1
  obtain rfl := hK0_1
  obtain ⟨c_hK0_2, d_hK0_2, e_hK0_2, hK0_2, hK0_2_r⟩ := hK0_1_r
  subst e_hK0_2
  obtain rfl := hK0_2
  obtain ⟨c_hK0_3, d_hK0_3, e_hK0_3, hK0_3, hK0_3_r⟩ := hK0_2_r
  subst e_hK0_3
  obtain rfl := hK0_3
  obtain ⟨c_hK0_4, d_hK0_4, e_hK0_4, hK0_4, hK0_4_r⟩ := hK0_3_r
  subst e_hK0_4
  obtain rfl := hK0_4
  obtain ⟨c_hK0_5, d_hK0_5, e_hK0_5, hK0_5, hK0_5_r⟩ := hK0_4_r
  subst e_hK0_5
  obtain ⟨A0_5, c0_5, rfl, hc0_5, hC0_5⟩ := hK0_5
  obtain ⟨A0_6, c0_6, rfl, hc0_6, hC0_6⟩ := hK0_5_r
  obtain rfl := cells_agg hz0
  clear hz0
  obtain ⟨k, hl⟩ := PureFnExactGoodGoal.law a0_0 g0_0 a0_1 g0_1 a0_2 g0_2 a0_3 g0_3 a0_4 g0_4 l0_5 g0_5 l0_6 g0_6
  refine (laws_FnExactGoodGoal.calls k a0_0 a0_1 a0_2 a0_3 a0_4 A0_5 c0_5 l0_5 A0_6 c0_6 l0_6 true W hC0_5 hc0_5 hC0_6 hc0_6 hl).mono fun e W' ⟨he, bel0⟩ => ?_
  have bel : Below W.heap.size W W' := by first | exact bel0 | exact bel0.below
  subst he
  exact ⟨_, rfl, _, _, _, [], _, [], hW', trodAll_mk1 (shut_bool Try.underlying4 _), (trodAll_cons_mk (Below.trod laidOut (by kernel_rfl) (of_decide_eq_true (by kernel_rfl)) k0_ bel lt0) trodAll_mk0), rfl, bel.frame _, fun h => by cases h⟩
theorem over : Rows.fnExactGoodGoalRow.holds Try.pinned (OpenSpec.ofChange Rows.fnExactGoodGoalSpec) :=
  OpenClaim.holds_of_wide 3 Try.f3 rfl rfl rfl rfl rfl rfl rfl ⟨rfl, rfl, rfl, rfl, rfl⟩ rfl rfl rfl rfl rfl (by kernel_rfl) Try.func3 (by kernel_rfl)
    (of_decide_eq_true (by kernel_rfl)) (by unfold Func.isWrapper; first | (rw [if_pos (by decide +kernel)]; kernel_rfl) | (rw [if_neg (by decide +kernel)]; exact ⟨rfl, rfl⟩))
    (fun os started H enc _ => lifted os started H enc)
theorem proved : Rows.FnExactGoodGoalSaid := over
end Go.Proofs.Ytjpgflljnljpgaa.fnExactGoodGoal
namespace Go.Proofs.Ytjpgflljnljpgaa
/-- The row, under a short name, for the claim. -/
theorem fnExactGoodGoal_holds : Rows.FnExactGoodGoalSaid := fnExactGoodGoal.proved
end Go.Proofs.Ytjpgflljnljpgaa
