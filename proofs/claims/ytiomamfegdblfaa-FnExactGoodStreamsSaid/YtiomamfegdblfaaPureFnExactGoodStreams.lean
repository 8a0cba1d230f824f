/- The program's GoodStreams returns what the reference's returns, for every list of streams. No further condition. -/
import Derived.Test.YtiomamfegdblfaaBFnExactGoodStreams
namespace Go.Proofs.Ytiomamfegdblfaa.PureFnExactGoodStreams
open Go.RowKit Go.Proofs.Ytiomamfegdblfaa.PFnExactGoodStreams Go.Proofs.YtiomamfegdblfaaW.PrintWords Go.Proofs.YtiomamfegdblfaaW.PrintLast Go.Proofs.Ytiomamfegdblfaa.Opn Go.Proofs.Ytiomamfegdblfaa.GFnExactGoodStreams Go.Proofs.Ytiomamfegdblfaa.Evs Go.Proofs.Ytiomamfegdblfaa.BFnExactGoodStreams Go.Proofs.Ytiomamfegdblfaa.LabFnExactGoodStreams
theorem small_ok (m : List S37) (h : m.length ≤ 1048576 ∧ ∀ y ∈ m, smalli33 y) : smallS m :=
  ⟨h.1, fun y hy => ⟨⟨(h.2 y hy).1.1, (h.2 y hy).1.2⟩, (h.2 y hy).2.1⟩⟩
theorem guard_ok (m : List S37) (h : smallS m) : guardS m = some (streamsB m) := by
  unfold guardS
  exact if_pos ((smallSB_iff m).2 h)

theorem law (l : List S33) (g : GoodL good33 l) : ∃ k, laws_FnExactGoodStreams.f k l = some true := by
  refine EvP.rounds ?_
  unfold laws_FnExactGoodStreams.f
  refine EvP.bind (szS22 l g 1048576 (by omega) (by omega)) (fun r hr => ?_)
  refine EvP.ite (fun hc => EvP.now rfl) (fun hc => ?_)
  have hs := hr.2 (by omega)
  have hto := toS22 l hs
  have hsi := small_convS22 l hs
  have hgd := guard_ok _ (small_ok _ hsi)
  refine EvP.bind hto (fun t e => ?_)
  subst e
  refine EvP.bind (P := fun x => x = streamsB (l.map conv33)) ?_ (fun b e => ?_)
  · simp only [spec_GoodStreams.f, hgd]
    exact EvP.now rfl
  subst e
  refine EvP.bind hto (fun t e => ?_)
  subst e
  refine EvP.bind (P := fun x => x = streamsB (l.map conv33)) ?_ (fun b e => ?_)
  · simp only [impl_GoodStreams.f, hgd]
    exact EvP.now rfl
  subst e
  refine EvP.neg (by simp) ?_
  refine EvP.bind hto (fun t e => ?_)
  subst e
  refine EvP.bind (eqS22 _ hsi) (fun r e => ?_)
  subst e
  exact EvP.pos rfl (EvP.now rfl)
end Go.Proofs.Ytiomamfegdblfaa.PureFnExactGoodStreams
