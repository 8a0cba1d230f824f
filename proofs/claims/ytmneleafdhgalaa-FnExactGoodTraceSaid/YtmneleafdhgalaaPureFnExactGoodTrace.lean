/- The program's GoodTrace returns what the reference's returns, for every trace. No further condition. -/
import Derived.Test.YtmneleafdhgalaaBFnExactGoodTrace
namespace Go.Proofs.Ytmneleafdhgalaa.PureFnExactGoodTrace
open Go.RowKit Go.Proofs.Ytmneleafdhgalaa.PFnExactGoodTrace Go.Proofs.YtmneleafdhgalaaW.PrintWords Go.Proofs.YtmneleafdhgalaaW.PrintLast Go.Proofs.Ytmneleafdhgalaa.Opn Go.Proofs.Ytmneleafdhgalaa.GFnExactGoodTrace Go.Proofs.Ytmneleafdhgalaa.Evs Go.Proofs.Ytmneleafdhgalaa.BFnExactGoodTrace

theorem wf_all (l : List S88) (h : GoodL good88 l) : (l.map conv88).all wfCall = true := by
  rw [List.all_eq_true]
  intro y hy
  obtain ⟨z, hz, rfl⟩ := List.mem_map.1 hy
  obtain ⟨g0, g1, g2, g3, g4, g5, g6⟩ := h.2 z hz
  show (wfI z.f0 && wfI z.f1 && wfI z.f4) = true
  unfold wfI
  rw [g0, g1, g4]
  rfl

theorem law (a0 : Int) (g0 : (Lit.int .i64 a0).wf = true) (l : List S88) (g1 : GoodL good88 l) : ∃ k, laws_FnExactGoodTrace.f k a0 l = some true := by
  refine EvP.rounds ?_
  unfold laws_FnExactGoodTrace.f
  refine EvP.bind (sz47 ⟨a0, l⟩ ⟨g0, g1⟩ 1048576 (by omega) (by omega)) (fun r hr => ?_)
  refine EvP.ite (fun hc => EvP.now rfl) (fun hc => ?_)
  have hs := hr.2 (by omega)
  have hto := to47 ⟨a0, l⟩ hs
  refine EvP.bind hto (fun t e => ?_)
  subst e
  refine EvP.bind (P := fun x => x = goodTraceB a0 (l.map conv88)) (EvP.now rfl) (fun b e => ?_)
  subst e
  refine EvP.bind hto (fun t e => ?_)
  subst e
  refine EvP.bind (P := fun x => x = goodTraceB a0 (l.map conv88)) ?_ (fun b e => ?_)
  · unfold impl_GoodTrace.f
    exact EvP.pos (wf_all l g1) (EvP.now rfl)
  subst e
  refine EvP.neg (by simp) ?_
  refine EvP.bind hto (fun t e => ?_)
  subst e
  refine EvP.bind (eq47 (conv47 ⟨a0, l⟩) (small_conv47 _ hs)) (fun r e => ?_)
  subst e
  exact EvP.pos rfl (EvP.now rfl)
end Go.Proofs.Ytmneleafdhgalaa.PureFnExactGoodTrace
