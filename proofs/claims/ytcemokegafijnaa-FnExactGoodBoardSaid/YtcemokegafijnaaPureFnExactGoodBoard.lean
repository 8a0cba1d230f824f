/- The program's GoodBoard returns what the reference's returns, for every board. No further condition. -/
import Derived.Test.YtcemokegafijnaaBFnExactGoodBoard
namespace Go.Proofs.Ytcemokegafijnaa.PureFnExactGoodBoard
open Go.RowKit Go.Proofs.Ytcemokegafijnaa.PFnExactGoodBoard Go.Proofs.YtcemokegafijnaaW.PrintWords Go.Proofs.YtcemokegafijnaaW.PrintLast Go.Proofs.Ytcemokegafijnaa.Opn Go.Proofs.Ytcemokegafijnaa.GFnExactGoodBoard Go.Proofs.Ytcemokegafijnaa.Evs Go.Proofs.Ytcemokegafijnaa.BFnExactGoodBoard
theorem guard_ok (b : S31) (h : smalli25 b) : guardW b.f0 b.f1 = some (boardB b.f0 b.f1) := by
  unfold guardW
  refine if_pos ((smallWB_iff _ _).2 ⟨fun x hx => ?_, fun x hx => ?_⟩)
  · have := h.1.2 x hx
    exact ⟨this.1, this.2.2.1, this.2.2.2⟩
  · exact (h.2.2 x hx).2.2.2.1

theorem law (l : List S54) (g0 : GoodL good54 l) (m : List S58) (g1 : GoodL good58 m) : ∃ k, laws_FnExactGoodBoard.f k l m = some true := by
  refine EvP.rounds ?_
  unfold laws_FnExactGoodBoard.f
  refine EvP.bind (sz25 ⟨l, m⟩ ⟨g0, g1⟩ 1048576 (by omega) (by omega)) (fun r hr => ?_)
  refine EvP.ite (fun hc => EvP.now rfl) (fun hc => ?_)
  have hs := hr.2 (by omega)
  have hto := to25 ⟨l, m⟩ hs
  have hsi := small_conv25 _ hs
  have hgd := guard_ok _ hsi
  refine EvP.bind hto (fun t e => ?_)
  subst e
  refine EvP.bind (P := fun x => x = boardB (conv25 ⟨l, m⟩).f0 (conv25 ⟨l, m⟩).f1) ?_ (fun b e => ?_)
  · simp only [spec_GoodBoard.f, hgd]
    exact EvP.now rfl
  subst e
  refine EvP.bind hto (fun t e => ?_)
  subst e
  refine EvP.bind (P := fun x => x = boardB (conv25 ⟨l, m⟩).f0 (conv25 ⟨l, m⟩).f1) ?_ (fun b e => ?_)
  · simp only [impl_GoodBoard.f, hgd]
    exact EvP.now rfl
  subst e
  refine EvP.neg (by simp) ?_
  refine EvP.bind hto (fun t e => ?_)
  subst e
  refine EvP.bind (eq25 (conv25 ⟨l, m⟩) hsi) (fun r e => ?_)
  subst e
  exact EvP.pos rfl (EvP.now rfl)
end Go.Proofs.Ytcemokegafijnaa.PureFnExactGoodBoard
