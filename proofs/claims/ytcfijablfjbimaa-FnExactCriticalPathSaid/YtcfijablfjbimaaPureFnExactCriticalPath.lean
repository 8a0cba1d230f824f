/- The program's CriticalPath returns what the reference's returns, for every trace; its answer owns its memory. No further condition. -/
import Derived.Test.YtcfijablfjbimaaBFnExactCriticalPath
import Derived.Test.YtcfijablfjbimaaPathPlain
import Derived.Test.YtcfijablfjbimaaPathRev
import Derived.Test.YtcfijablfjbimaaPFnExactCriticalPathx8
namespace Go.Proofs.Ytcfijablfjbimaa.PureFnExactCriticalPath
open Go.RowKit Go.Proofs.Ytcfijablfjbimaa.PFnExactCriticalPath Go.Proofs.YtcfijablfjbimaaW.PrintWords Go.Proofs.YtcfijablfjbimaaW.PrintLast Go.Proofs.Ytcfijablfjbimaa.Opn Go.Proofs.Ytcfijablfjbimaa.GFnExactCriticalPath Go.Proofs.Ytcfijablfjbimaa.Evs Go.Proofs.Ytcfijablfjbimaa.BFnExactCriticalPath Go.Proofs.Ytcfijablfjbimaa.PathPlain Go.Proofs.Ytcfijablfjbimaa.PathRev
theorem wf_all (l : List S53) (h : GoodL good53 l) : (l.map conv53).all wfCall = true := by
  rw [List.all_eq_true]
  intro y hy
  obtain ⟨z, hz, rfl⟩ := List.mem_map.1 hy
  obtain ⟨g0, g1, g2, g3, g4, g5, g6⟩ := h.2 z hz
  show (wfI z.f0 && wfI z.f1 && wfI z.f4) = true
  unfold wfI
  rw [g0, g1, g4]
  rfl
/-- What both sides come to. -/
theorem both (a0 : Int) (l : List SC) (hw : l.all wfCall = true) : ∃ o : List SP, (o.length : Int) ≤ 2000000000000 ∧ EvP (fun k => spec_CriticalPath.f k a0 l) (fun r => r = o) ∧ EvP (fun k => impl_CriticalPath.f k a0 l) (fun r => r = o) := by
  have hi : impl_GoodTrace.f a0 l = some (goodTraceB a0 l) := by unfold impl_GoodTrace.f; rw [if_pos hw]
  cases hg : goodTraceB a0 l with
  | false =>
    refine ⟨[], by simp, ?_, ?_⟩
    · unfold spec_CriticalPath.f spec_GoodTrace.f
      rw [hg]
      exact EvP.bind (EvP.now rfl) (fun t e => by subst e; exact EvP.neg (by decide) (EvP.now rfl))
    · unfold impl_CriticalPath.f
      rw [hi, hg]
      exact EvP.bind (EvP.now rfl) (fun t e => by subst e; exact EvP.neg (by decide) (EvP.now rfl))
  | true =>
    obtain ⟨hgc, h0, h1⟩ := good_of hg
    have h00 : rd_T41 l 0 = l[0] := rdK_get l 0 h0
    have ht := hgc.top l[0] (List.getElem_mem h0)
    obtain ⟨o, hp, ho⟩ := path_there l hgc.kin hgc.pos (l.length - 0) 0 h0 (Nat.le_refl _) _ l[0].f5 [] (Nat.le_refl _) ht.1 (by simp; omega)
    have hx4 := hgc.pos l[0] (List.getElem_mem h0)
    have hol : (o.length : Int) ≤ 2000000000000 := by omega
    refine ⟨o.reverse, by rw [List.length_reverse]; exact hol, ?_, ?_⟩
    · unfold spec_CriticalPath.f spec_GoodTrace.f
      rw [hg]
      refine EvP.bind (EvP.now rfl) (fun t e => ?_)
      subst e
      refine EvP.pos rfl (EvP.pos (by omega) (EvP.bind (P := fun r => r = o) ?_ (fun q e => ?_)))
      · refine EvP.step ?_
        simp only [spec_l23Path.f, h00]
        exact EvP.pos (by omega) (EvP.pos (by omega) (specPath_ev (by omega) a0 hp (List.getElem_mem h0)))
      · subst e
        exact specRev_ev q hol
    · unfold impl_CriticalPath.f
      rw [hi, hg]
      refine EvP.bind (EvP.now rfl) (fun t e => ?_)
      subst e
      refine EvP.pos rfl (EvP.pos ⟨h0, by omega⟩ (EvP.bind (P := fun r => r = o) ?_ (fun q e => ?_)))
      · rw [h00]
        exact pathF_ev hp
      · subst e
        exact implRev_ev q hol
theorem law (a0 : Int) (g0 : (Lit.int .i64 a0).wf = true) (l : List S53) (g1 : GoodL good53 l) : ∃ k, laws_FnExactCriticalPath.f k a0 l = some true := by
  refine EvP.rounds ?_
  unfold laws_FnExactCriticalPath.f
  refine EvP.bind (sz24 ⟨a0, l⟩ ⟨g0, g1⟩ 1048576 (by omega) (by omega)) (fun r hr => ?_)
  refine EvP.ite (fun hc => EvP.now rfl) (fun hc => ?_)
  have hs := hr.2 (by omega)
  have hto := to24 ⟨a0, l⟩ hs
  have heqt := eq24 (conv24 ⟨a0, l⟩) (small_conv24 _ hs)
  obtain ⟨o, hol, h1, h2⟩ := both a0 (l.map conv53) (wf_all l g1)
  have hml : (l.map conv53).length ≤ 1048576 := by rw [List.length_map]; exact hs.2.1
  refine EvP.bind hto (fun t e => ?_)
  subst e
  refine EvP.bind h1 (fun t e => ?_)
  subst e
  refine EvP.bind hto (fun t e => ?_)
  subst e
  refine EvP.bind h2 (fun q e => ?_)
  subst e
  have heq := eq_ev q hol
  refine EvP.bind heq (fun b e => ?_)
  subst e
  refine EvP.pos rfl (EvP.bind hto (fun t e => ?_))
  subst e
  refine EvP.bind heqt (fun b e => ?_)
  subst e
  refine EvP.pos rfl ?_
  refine EvP.bind (P := fun r => 0 ≤ r.1) ?_ (fun mk1 hm => ?_)
  · unfold laws_markTrace.f
    exact EvP.bind (markCalls_ev _ hml) (fun r hr => EvP.now hr)
  refine EvP.neg (by omega) (EvP.bind heq (fun b e => ?_))
  subst e
  refine EvP.step ?_
  simp only [laws_FnExactCriticalPath.j0]
  refine EvP.neg (by decide) (EvP.bind (mark_ev q hol) (fun mk2 hm2 => ?_))
  have hheld := held_ev q.length hol mk2.2 hm2.2.1 hm2.2.2
  refine EvP.bind hheld (fun t e => ?_)
  subst e
  refine EvP.neg (by omega) (EvP.pos hm2.1.symm (EvP.bind hto (fun v e => ?_)))
  subst e
  refine EvP.bind h2 (fun t e => ?_)
  subst e
  refine EvP.bind heq (fun b e => ?_)
  subst e
  refine EvP.pos rfl (EvP.bind hheld (fun t e => ?_))
  subst e
  exact EvP.neg (by omega) (EvP.pos hm2.1.symm (EvP.now rfl))
end Go.Proofs.Ytcfijablfjbimaa.PureFnExactCriticalPath
