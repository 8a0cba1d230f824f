/- The program's StrangeIn returns what the reference's returns, for all samples and numbers. No further condition. -/
import Derived.Test.YtknongbllpencaaBFnExactStrangeIn
namespace Go.Proofs.Ytknongbllpencaa.PureFnExactStrangeIn
open Go.RowKit Go.Proofs.Ytknongbllpencaa.PFnExactStrangeIn Go.Proofs.YtknongbllpencaaW.PrintWords Go.Proofs.YtknongbllpencaaW.PrintLast Go.Proofs.Ytknongbllpencaa.Opn Go.Proofs.Ytknongbllpencaa.GFnExactStrangeIn Go.Proofs.Ytknongbllpencaa.Evs Go.Proofs.Ytknongbllpencaa.BFnExactStrangeIn
def mk (j : Nat) : SM := ⟨1 + 2 * (j : Int), 2 + 2 * (j : Int)⟩
theorem rd_set_same (M : List SM) (i : Nat) (b : SM) (h : i < M.length) : rdM (M.set i b) (i : Int) = b := by
  rw [rdM_get _ i (by rw [List.length_set]; exact h), List.getElem_set_self]
theorem rd_set_other (M : List SM) (i j : Nat) (b : SM) (h : j < M.length) (hij : i ≠ j) : rdM (M.set i b) (j : Int) = rdM M (j : Int) := by
  rw [rdM_get _ j (by rw [List.length_set]; exact h), rdM_get M j h, List.getElem_set_ne hij]
theorem mark_loop (n : Nat) (hn : n ≤ 1048576) : ∀ (d i : Nat) (M : List SM), i + d = n → M.length = n → (∀ j : Nat, j < i → rdM M (j : Int) = mk j) →
    EvP (fun k => laws_markSampleS.l0 k M (1 + 2 * (i : Int)) (i : Int)) (fun r => r.1 = 1 + 2 * (n : Int) ∧ r.2.length = n ∧ ∀ j : Nat, j < n → rdM r.2 (j : Int) = mk j) := by
  intro d
  induction d with
  | zero =>
    intro i M h hM hj
    refine EvP.step ?_
    simp only [laws_markSampleS.l0]
    refine EvP.neg (by omega) (EvP.now ⟨?_, hM, fun j hjn => hj j (by omega)⟩)
    show 1 + 2 * (i : Int) = 1 + 2 * (n : Int)
    omega
  | succ d ih =>
    intro i M h hM hj
    have hi : i < M.length := by omega
    have w1 : wrap64 (1 + 2 * (i : Int) + 1) = 2 + 2 * (i : Int) := by rw [wS64 (by omega) (by omega)]; omega
    have w2 : wrap64 (2 + 2 * (i : Int) + 1) = 1 + 2 * ((i + 1 : Nat) : Int) := by rw [wS64 (by omega) (by omega)]; omega
    have w3 : wrap64 ((i : Int) + 1) = ((i + 1 : Nat) : Int) := by rw [wS64 (by omega) (by omega)]; omega
    refine EvP.step ?_
    simp only [laws_markSampleS.l0, w1, w2, w3, Int.toNat_natCast]
    refine EvP.pos (by omega) (EvP.pos (by omega) (EvP.bind (EvP.now (P := fun y => y = M.set i ⟨1 + 2 * (i : Int), (rdM M (i : Int)).f1⟩) rfl) (fun y hy => ?_)))
    subst hy
    show EvP (fun k => laws_markSampleS.l0 k ((M.set i ⟨1 + 2 * (i : Int), (rdM M (i : Int)).f1⟩).set i ⟨(rdM (M.set i ⟨1 + 2 * (i : Int), (rdM M (i : Int)).f1⟩) (i : Int)).f0, 2 + 2 * (i : Int)⟩) (1 + 2 * ((i + 1 : Nat) : Int)) ((i + 1 : Nat) : Int)) _
    rw [rd_set_same M i _ hi]
    refine ih (i + 1) _ (by omega) (by rw [List.length_set, List.length_set]; exact hM) (fun j hj2 => ?_)
    rcases Nat.lt_or_ge j i with hlt | hge
    · rw [rd_set_other _ i j _ (by rw [List.length_set]; omega) (by omega), rd_set_other M i j _ (by omega) (by omega)]
      exact hj j hlt
    · obtain rfl : j = i := by omega
      rw [rd_set_same _ j _ (by rw [List.length_set]; exact hi)]
      rfl
theorem mark_ev (M : List SM) (hn : M.length ≤ 1048576) : EvP (fun k => laws_markSampleS.f k M 1) (fun r => r.1 = 1 + 2 * (M.length : Int) ∧ r.2.length = M.length ∧ ∀ j : Nat, j < M.length → rdM r.2 (j : Int) = mk j) := by
  unfold laws_markSampleS.f
  exact mark_loop M.length hn M.length 0 M (by omega) rfl (fun j hj => absurd hj (Nat.not_lt_zero _))
theorem held_loop (n : Nat) (hn : n ≤ 1048576) (M : List SM) (hM : M.length = n) (hj : ∀ j : Nat, j < n → rdM M (j : Int) = mk j) : ∀ (d i : Nat), i + d = n →
    EvP (fun k => laws_heldSampleS.l0 k M (1 + 2 * (i : Int)) (i : Int)) (fun r => r = 1 + 2 * (n : Int)) := by
  intro d
  induction d with
  | zero =>
    intro i h
    refine EvP.step ?_
    simp only [laws_heldSampleS.l0]
    refine EvP.neg (by omega) (EvP.now ?_)
    omega
  | succ d ih =>
    intro i h
    have w1 : wrap64 (1 + 2 * (i : Int) + 1) = 2 + 2 * (i : Int) := by rw [wS64 (by omega) (by omega)]; omega
    have w2 : wrap64 (2 + 2 * (i : Int) + 1) = 1 + 2 * ((i + 1 : Nat) : Int) := by rw [wS64 (by omega) (by omega)]; omega
    have w3 : wrap64 ((i : Int) + 1) = ((i + 1 : Nat) : Int) := by rw [wS64 (by omega) (by omega)]; omega
    have he := hj i (by omega)
    refine EvP.step ?_
    simp only [laws_heldSampleS.l0, w1, w2, w3]
    refine EvP.pos (by omega) (EvP.pos (by omega) (EvP.pos (by rw [show rd_T33 M (i : Int) = mk i from he]; rfl) (EvP.pos (by rw [show rd_T33 M (i : Int) = mk i from he]; rfl) (ih (i + 1) (by omega)))))
theorem held_ev (n : Nat) (hn : n ≤ 1048576) (M : List SM) (hM : M.length = n) (hj : ∀ j : Nat, j < n → rdM M (j : Int) = mk j) : EvP (fun k => laws_heldSampleS.f k M 1) (fun r => r = 1 + 2 * (n : Int)) := by
  unfold laws_heldSampleS.f
  exact held_loop n hn M hM hj n 0 (by omega)
theorem strange_len (l : List SM) (s b w : Int) : (strangeM l s b w).length ≤ l.length := by
  unfold strangeM
  split
  · exact Nat.le_trans (List.length_filter_le _ _) (live_len l)
  · exact Nat.zero_le _
theorem implStrange_ev (l : List SM) (hl : l.length ≤ 1048576) (s b w : Int) : EvP (fun _ => impl_StrangeIn.f l s b w) (fun r => r = strangeM l s b w) := by
  unfold impl_StrangeIn.f
  rw [if_pos hl]
  exact EvP.now rfl
theorem smalli_all (m : List SM) (h : m.length ≤ 1048576) : m.length ≤ 1048576 ∧ ∀ y ∈ m, smalli37 y := ⟨h, fun _ _ => ⟨trivial, trivial⟩⟩
theorem law (l : List S37) (g : GoodL good37 l) (s : Int) (_ : (Lit.int .i64 s).wf = true) (b : Int) (_ : (Lit.int .i64 b).wf = true) (w : Int) (_ : (Lit.int .i64 w).wf = true) : ∃ k, laws_FnExactStrangeIn.f k l s b w = some true := by
  refine EvP.rounds ?_
  unfold laws_FnExactStrangeIn.f
  refine EvP.bind (szS22 l g 1048576 (by omega) (by omega)) (fun r hr => ?_)
  refine EvP.ite (fun hc => EvP.now rfl) (fun hc => ?_)
  have hs := hr.2 (by omega)
  have hto := toS22 l hs
  have hcl : (l.map conv37).length ≤ 1048576 := by rw [List.length_map]; exact hs.1
  refine EvP.bind hto (fun t e => ?_)
  subst e
  generalize l.map conv37 = m at hcl hto ⊢
  have hsl : (strangeM m s b w).length ≤ 1048576 := Nat.le_trans (strange_len m s b w) hcl
  have hst := implStrange_ev m hcl s b w
  refine EvP.bind (specStrange_ev m hcl s b w) (fun t e => ?_)
  subst e
  refine EvP.bind hto (fun t e => ?_)
  subst e
  refine EvP.bind hst (fun t e => ?_)
  subst e
  have heq := eqS22 (strangeM t s b w) (smalli_all _ hsl)
  generalize hres : strangeM t s b w = res at hsl hst heq ⊢
  refine EvP.bind heq (fun q e => ?_)
  subst e
  refine EvP.pos rfl (EvP.bind hto (fun u e => ?_))
  subst e
  refine EvP.bind (eqS22 u (smalli_all _ hcl)) (fun q e => ?_)
  subst e
  refine EvP.pos rfl (EvP.bind (mark_ev u hcl) (fun mk1 hm => ?_))
  refine EvP.neg (by rw [hm.1]; omega) (EvP.bind heq (fun q e => ?_))
  subst e
  refine EvP.step ?_
  simp only [laws_FnExactStrangeIn.j0]
  refine EvP.neg (by decide) (EvP.bind (mark_ev res hsl) (fun mk2 hm2 => ?_))
  have hheld := held_ev res.length hsl mk2.2 hm2.2.1 hm2.2.2
  refine EvP.bind hheld (fun q e => ?_)
  subst e
  refine EvP.neg (by omega) (EvP.pos hm2.1.symm (EvP.bind hto (fun v e => ?_)))
  subst e
  refine EvP.bind hst (fun q e => ?_)
  subst e
  refine EvP.bind heq (fun q e => ?_)
  subst e
  refine EvP.pos rfl (EvP.bind hheld (fun q e => ?_))
  subst e
  exact EvP.neg (by omega) (EvP.pos hm2.1.symm (EvP.now rfl))
end Go.Proofs.Ytknongbllpencaa.PureFnExactStrangeIn
