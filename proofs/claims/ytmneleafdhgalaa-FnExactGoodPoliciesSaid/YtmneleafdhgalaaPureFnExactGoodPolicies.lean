/- The program's GoodPolicies returns what the reference's returns, for every list of policies. No further condition. -/
import Derived.Test.YtmneleafdhgalaaBFnExactGoodPolicies
import Derived.Test.YtmneleafdhgalaaAFnExactGoodPolicies
namespace Go.Proofs.Ytmneleafdhgalaa.PureFnExactGoodPolicies
open Go.RowKit Go.Proofs.Ytmneleafdhgalaa.PFnExactGoodPolicies Go.Proofs.YtmneleafdhgalaaW.PrintWords Go.Proofs.YtmneleafdhgalaaW.PrintLast Go.Proofs.Ytmneleafdhgalaa.Opn Go.Proofs.Ytmneleafdhgalaa.GFnExactGoodPolicies Go.Proofs.Ytmneleafdhgalaa.Evs Go.Proofs.Ytmneleafdhgalaa.BFnExactGoodPolicies Go.Proofs.Ytmneleafdhgalaa.AFnExactGoodPolicies Go.Proofs.Ytmneleafdhgalaa.Idx

/-- A policy that is not good. -/
def badB (x : S71) : Bool :=
  if x.f0 = 1 then !(decide (x.f1 = 0) && x.f2.toList.isEmpty)
  else if x.f0 = 2 then !(timeB x.f1 && x.f2.toList.isEmpty)
  else if x.f0 = 3 then !(decide (x.f1 = 0) && nameB x.f2)
  else if x.f0 = 4 then !(decide (1 ≤ x.f1) && decide (x.f1 ≤ 1000) && x.f2.toList.isEmpty)
  else if x.f0 = 5 then !(decide (0 ≤ x.f1) && decide (x.f1 ≤ 1000) && x.f2.toList.isEmpty)
  else true

theorem bad_ev (x : S71) : EvP (fun k => badPolicy k x) (fun r => r = badB x) := by
  unfold badPolicy impl_GoodPolicies_1.f badB
  refine EvP.ite (fun h1 => ?_) (fun h1 => EvP.ite (fun h2 => ?_) (fun h2 => EvP.ite (fun h3 => ?_) (fun h3 => EvP.ite (fun h4 => ?_) (fun h4 => EvP.ite (fun h5 => ?_) (fun h5 => ?_)))))
  · rw [if_pos h1]
    exact EvP.ite (fun h => EvP.now (by simp [h, bne])) (fun h => EvP.now (by simp [h]))
  · rw [if_neg h1, if_pos h2]
    simp only [impl_isTime_ev, Option.bind_some]
    exact EvP.ite (fun h => EvP.now (by simp [h, bne])) (fun h => EvP.now (by simp [h]))
  · rw [if_neg h1, if_neg h2, if_pos h3]
    exact EvP.ite (fun h => EvP.bind (impl_isName_ev _) (fun a e => EvP.now (by simp [h, e]))) (fun h => EvP.now (by simp [h]))
  · rw [if_neg h1, if_neg h2, if_neg h3, if_pos h4]
    exact EvP.ite (fun h => EvP.now (by simp [show ¬ (1 ≤ x.f1) by omega])) (fun h => EvP.ite (fun h' => EvP.now (by simp [show ¬ (x.f1 ≤ 1000) by omega])) (fun h' => EvP.now (by simp [show 1 ≤ x.f1 by omega, show x.f1 ≤ 1000 by omega, bne])))
  · rw [if_neg h1, if_neg h2, if_neg h3, if_neg h4, if_pos h5]
    exact EvP.ite (fun h => EvP.now (by simp [show ¬ (0 ≤ x.f1) by omega])) (fun h => EvP.ite (fun h' => EvP.now (by simp [show ¬ (x.f1 ≤ 1000) by omega])) (fun h' => EvP.now (by simp [show 0 ≤ x.f1 by omega, show x.f1 ≤ 1000 by omega, bne])))
  · rw [if_neg h1, if_neg h2, if_neg h3, if_neg h4, if_neg h5]
    exact EvP.now rfl

theorem any_ev {α : Type} (g : Nat → α → Option Bool) (p : α → Bool) : ∀ l : List α, (∀ x, EvP (fun k => g k x) (fun r => r = p x)) → EvP (fun k => anyM (g k) l) (fun r => r = l.any p)
  | [], _ => EvP.now rfl
  | x :: xs, h => by
    simp only [anyM, List.any_cons]
    refine EvP.bind (h x) (fun a e => ?_)
    subst e
    refine EvP.ite (fun hp => EvP.now (by simp [hp])) (fun hp => (any_ev g p xs h).imp (fun r e => by rw [e]; simp [hp]))

theorem impl_ev (l : List S71) : EvP (fun k => impl_GoodPolicies.f k l) (fun r => r = (decide (l.length ≤ 10) && !l.any badB)) := by
  unfold impl_GoodPolicies.f
  refine EvP.ite (fun h => EvP.bind (any_ev _ badB l bad_ev) (fun a e => EvP.now (by simp [h, e]))) (fun h => EvP.now (by simp [h]))

theorem spec_loop (l : List S71) (hl : l.length ≤ 1048576) : ∀ (d i : Nat), i + d = l.length → EvP (fun k => spec_GoodPolicies.l0 k l l (l.length : Int) (i : Int)) (fun r => r = (!(l.drop i).any badB && decide (l.length ≤ 10))) := by
  intro d
  induction d with
  | zero =>
    intro i h
    refine EvP.step ?_
    simp only [spec_GoodPolicies.l0]
    refine EvP.neg (by omega) (EvP.now ?_)
    rw [List.drop_of_length_le (by omega)]
    simp only [List.any_nil, Bool.not_false, Bool.true_and, decide_eq_decide]
    omega
  | succ d ih =>
    intro i h
    have hi : i < l.length := by omega
    have hn := ih (i + 1) (by omega)
    refine EvP.step ?_
    simp only [spec_GoodPolicies.l0, wrap_succ hi hl, rdT71 l i hi, spec_l3Time_ev, Option.bind_some]
    refine EvP.pos (by omega) (EvP.pos (by omega) (EvP.pos (by omega) ?_))
    rw [List.drop_eq_getElem_cons hi, List.any_cons]
    generalize l[i] = x
    have no : badB x = true → EvP (fun _ => some false) (fun r => r = (!(badB x || (l.drop (i + 1)).any badB) && decide (l.length ≤ 10))) := fun hb => EvP.now (by simp [hb])
    have yes : badB x = false → EvP (fun k => spec_GoodPolicies.l0 k l l (l.length : Int) ((i + 1 : Nat) : Int)) (fun r => r = (!(badB x || (l.drop (i + 1)).any badB) && decide (l.length ≤ 10))) := fun hb => by rw [hb]; simpa using hn
    refine EvP.ite (fun h1 => ?_) (fun h1 => EvP.ite (fun h2 => ?_) (fun h2 => EvP.ite (fun h3 => ?_) (fun h3 => EvP.ite (fun h4 => ?_) (fun h4 => EvP.ite (fun h5 => ?_) (fun h5 => ?_)))))
    · refine EvP.ite (fun a => EvP.ite (fun b => yes ?_) (fun b => no ?_)) (fun a => no ?_) <;> clear no yes hn ih <;> unfold badB <;> rw [if_pos h1] <;> simp_all
    · refine EvP.ite (fun a => EvP.ite (fun b => yes ?_) (fun b => no ?_)) (fun a => no ?_) <;> clear no yes hn ih <;> unfold badB <;> rw [if_neg h1, if_pos h2] <;> simp_all
    · refine EvP.ite (fun a => EvP.bind (spec_l2Name_ev _) (fun t e => EvP.ite (fun b => yes ?_) (fun b => no ?_))) (fun a => no ?_) <;> clear no yes hn ih <;> unfold badB <;> rw [if_neg h1, if_neg h2, if_pos h3] <;> simp_all
    · refine EvP.ite (fun a => EvP.ite (fun b => EvP.ite (fun c => yes ?_) (fun c => no ?_)) (fun b => no ?_)) (fun a => no ?_) <;> clear no yes hn ih <;> unfold badB <;> rw [if_neg h1, if_neg h2, if_neg h3, if_pos h4] <;> simp_all <;> omega
    · refine EvP.ite (fun a => EvP.ite (fun b => EvP.ite (fun c => yes ?_) (fun c => no ?_)) (fun b => no ?_)) (fun a => no ?_) <;> clear no yes hn ih <;> unfold badB <;> rw [if_neg h1, if_neg h2, if_neg h3, if_neg h4, if_pos h5] <;> simp_all <;> omega
    · refine no ?_
      unfold badB
      rw [if_neg h1, if_neg h2, if_neg h3, if_neg h4, if_neg h5]

theorem law (l : List S70) (gl : GoodL good70 l) : ∃ k, laws_FnExactGoodPolicies.f k l = some true := by
  refine EvP.rounds ?_
  unfold laws_FnExactGoodPolicies.f
  refine EvP.bind (szS38 l gl 1048576 (by omega) (by omega)) (fun r hr => EvP.ite (fun _ => EvP.now rfl) (fun h0 => ?_))
  have hs := hr.2 (by omega)
  have ht := toS38 l hs
  have hi := small_convS38 l hs
  refine EvP.bind ht (fun a ha => ?_)
  subst ha
  refine EvP.bind (spec_loop _ hi.1 (l.map conv70).length 0 (by omega)) (fun b hb => ?_)
  refine EvP.bind ht (fun a ha => ?_)
  subst ha
  refine EvP.bind (impl_ev _) (fun c hc => ?_)
  have e : (c != b) = false := by
    rw [hc, hb, List.drop_zero, Bool.and_comm]
    simp
  refine EvP.neg (by rw [e]; decide) ?_
  refine EvP.bind ht (fun a ha => ?_)
  subst ha
  refine EvP.bind (eqS38 _ hi) (fun q hq => EvP.pos hq (EvP.now rfl))

end Go.Proofs.Ytmneleafdhgalaa.PureFnExactGoodPolicies
