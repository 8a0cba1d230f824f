/- The program's SelfTimes returns what the reference's returns, for every trace; its answer owns its memory. No further condition. -/
import Derived.Test.YtkehglgehbfcmaaBFnExactSelfTimes
import Derived.Test.YtkehglgehbfcmaaSelfPlain
import Derived.Test.YtkehglgehbfcmaaIntMark
import Derived.Test.YtkehglgehbfcmaaPFnExactSelfTimesx6
namespace Go.Proofs.Ytkehglgehbfcmaa.PureFnExactSelfTimes
open Go.RowKit Go.Proofs.Ytkehglgehbfcmaa.PFnExactSelfTimes Go.Proofs.YtkehglgehbfcmaaW.PrintWords Go.Proofs.YtkehglgehbfcmaaW.PrintLast Go.Proofs.Ytkehglgehbfcmaa.Opn Go.Proofs.Ytkehglgehbfcmaa.GFnExactSelfTimes Go.Proofs.Ytkehglgehbfcmaa.Evs Go.Proofs.Ytkehglgehbfcmaa.BFnExactSelfTimes Go.Proofs.Ytkehglgehbfcmaa.SelfPlain Go.Proofs.Ytkehglgehbfcmaa.IntMark
theorem wf_all (l : List S52) (h : GoodL good52 l) : (l.map conv52).all wfCall = true := by
  rw [List.all_eq_true]
  intro y hy
  obtain ⟨z, hz, rfl⟩ := List.mem_map.1 hy
  obtain ⟨g0, g1, g2, g3, g4, g5, g6⟩ := h.2 z hz
  show (wfI z.f0 && wfI z.f1 && wfI z.f4) = true
  unfold wfI
  rw [g0, g1, g4]
  rfl
theorem law (a0 : Int) (g0 : (Lit.int .i64 a0).wf = true) (l : List S52) (g1 : GoodL good52 l) : ∃ k, laws_FnExactSelfTimes.f k a0 l = some true := by
  refine EvP.rounds ?_
  unfold laws_FnExactSelfTimes.f
  refine EvP.bind (sz24 ⟨a0, l⟩ ⟨g0, g1⟩ 1048576 (by omega) (by omega)) (fun r hr => ?_)
  refine EvP.ite (fun hc => EvP.now rfl) (fun hc => ?_)
  have hs := hr.2 (by omega)
  have hto := to24 ⟨a0, l⟩ hs
  have heqt := eq24 (conv24 ⟨a0, l⟩) (small_conv24 _ hs)
  obtain ⟨o, hol, h1, h2⟩ := both a0 (l.map conv52) (wf_all l g1)
  have hml : (l.map conv52).length ≤ 1048576 := by rw [List.length_map]; exact hs.2.1
  refine EvP.bind hto (fun t e => ?_)
  subst e
  refine EvP.bind h1 (fun t e => ?_)
  subst e
  refine EvP.bind hto (fun t e => ?_)
  subst e
  refine EvP.bind h2 (fun q e => ?_)
  subst e
  have heq := eq_ev q (by omega)
  refine EvP.bind heq (fun b e => ?_)
  subst e
  refine EvP.pos rfl (EvP.bind hto (fun t e => ?_))
  subst e
  refine EvP.bind heqt (fun b e => ?_)
  subst e
  refine EvP.pos rfl ?_
  refine EvP.bind (P := fun r => 0 ≤ r.1) ?_ (fun mk1 hm => ?_)
  · unfold laws_markTrace.f
    exact EvP.bind (markCalls_ev _ hml) (fun r hr => EvP.now hr)
  refine EvP.neg (by omega) (EvP.bind heq (fun b e => ?_))
  subst e
  refine EvP.step ?_
  simp only [laws_FnExactSelfTimes.j0]
  refine EvP.neg (by decide) (EvP.bind (mark_ev q (by omega)) (fun mk2 hm2 => ?_))
  have hheld := held_ev q.length (by omega) mk2.2 hm2.2.1 hm2.2.2
  refine EvP.bind hheld (fun t e => ?_)
  subst e
  refine EvP.neg (by omega) (EvP.pos hm2.1.symm (EvP.bind hto (fun v e => ?_)))
  subst e
  refine EvP.bind h2 (fun t e => ?_)
  subst e
  refine EvP.bind heq (fun b e => ?_)
  subst e
  refine EvP.pos rfl (EvP.bind hheld (fun t e => ?_))
  subst e
  exact EvP.neg (by omega) (EvP.pos hm2.1.symm (EvP.now rfl))
end Go.Proofs.Ytkehglgehbfcmaa.PureFnExactSelfTimes
