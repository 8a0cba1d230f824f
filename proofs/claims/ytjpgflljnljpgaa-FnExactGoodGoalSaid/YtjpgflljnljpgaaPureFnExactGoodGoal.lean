/- The program's GoodGoal returns what the reference's returns, for every goal. No further condition. -/
import Derived.Test.YtjpgflljnljpgaaBFnExactGoodGoal
import Derived.Test.YtjpgflljnljpgaaMatFnExactGoodGoal
import Derived.Test.YtjpgflljnljpgaaWrdFnExactGoodGoal
import Derived.Test.YtjpgflljnljpgaaPFnExactGoodGoalx9
namespace Go.Proofs.Ytjpgflljnljpgaa.PureFnExactGoodGoal
open Go.RowKit Go.Proofs.Ytjpgflljnljpgaa.PFnExactGoodGoal Go.Proofs.YtjpgflljnljpgaaW.PrintWords Go.Proofs.YtjpgflljnljpgaaW.PrintLast Go.Proofs.Ytjpgflljnljpgaa.Opn Go.Proofs.Ytjpgflljnljpgaa.GFnExactGoodGoal Go.Proofs.Ytjpgflljnljpgaa.Evs Go.Proofs.Ytjpgflljnljpgaa.AFnExactGoodGoal Go.Proofs.Ytjpgflljnljpgaa.BFnExactGoodGoal Go.Proofs.Ytjpgflljnljpgaa.PrtFnExactGoodGoal Go.Proofs.Ytjpgflljnljpgaa.MatFnExactGoodGoal Go.Proofs.Ytjpgflljnljpgaa.WrdFnExactGoodGoal
abbrev SBr := S42
def notName (x : SMt) : Bool := !decide (x.f0.toList = ([95, 110, 97, 109, 101] : List UInt8))
def burnB (x : SBr) : Bool := decide (1 ≤ x.f1) && (decide (x.f1 ≤ x.f0) && (decide (x.f0 ≤ 1000000000000) && (decide (1 ≤ x.f2) && (decide (x.f2 ≤ 1000000) && timeB x.f3))))
def restB (m : List SMt) (b : List SBr) : Bool := m.all notName && b.all burnB
def goalB (a : ByteArray) (t w : Int) (x y : ByteArray) (m : List SMt) (b : List SBr) : Bool :=
  nameB a && (decide (1 ≤ t) && (decide (t < 1000000) && (decide (1 ≤ w) && (decide (w ≤ 1000000000000) && (metricB x && (metricB y && (matsB m && (decide (m.length ≤ 9) && (decide (b.length ≤ 10) && restB m b)))))))))
theorem specMetric_ev (s : ByteArray) : EvP (fun k => spec_l24Metric.f k s) (fun r => r = metricB s) := by
  unfold spec_l24Metric.f metricB
  refine EvP.bind (spec_l2Name_ev s) (fun t e => ?_)
  subst e
  cases nameB s with
  | true => exact EvP.pos rfl (EvP.bind (specWord_ev s) (fun t e => EvP.now (by rw [e]; rfl)))
  | false => exact EvP.neg (by decide) (EvP.now rfl)
theorem implMetric_ev (s : ByteArray) : EvP (fun k => impl_GoodGoal_1.f k s) (fun r => r = metricB s) := by
  unfold impl_GoodGoal_1.f metricB
  refine EvP.bind (impl_isName_ev s) (fun t e => ?_)
  subst e
  cases nameB s with
  | true => exact EvP.pos rfl (EvP.bind (implWord_ev s) (fun t e => EvP.now (by rw [e]; rfl)))
  | false => exact EvP.neg (by decide) (EvP.now rfl)
theorem specTime (t : Int) : spec_l3Time.f t = some (timeB t) := by
  unfold spec_l3Time.f timeB
  by_cases h : t ≥ 0
  · rw [if_pos h, decide_eq_true (by omega : 0 ≤ t)]; rfl
  · rw [if_neg h, decide_eq_false (by omega : ¬ 0 ≤ t)]; rfl
theorem implTime (t : Int) : impl_isTime.f t = some (timeB t) := by
  unfold impl_isTime.f timeB
  by_cases h : t ≥ 0
  · rw [if_pos h, decide_eq_true (by omega : 0 ≤ t)]; rfl
  · rw [if_neg h, decide_eq_false (by omega : ¬ 0 ≤ t)]; rfl
theorem specBurns_loop (l : List SBr) (hl : l.length ≤ 1048576) : ∀ (d i : Nat), i + d = l.length → EvP (fun k => spec_GoodGoal.l1 k l (l.length : Int) (i : Int)) (fun r => r = (l.drop i).all burnB) := by
  intro d
  induction d with
  | zero =>
    intro i h
    refine EvP.step ?_
    simp only [spec_GoodGoal.l1]
    refine EvP.neg (by omega) (EvP.now ?_)
    rw [List.drop_of_length_le (by omega)]; rfl
  | succ d ih =>
    intro i h
    have hi : i < l.length := by omega
    have hn := ih (i + 1) (by omega)
    refine EvP.step ?_
    have hget : rd_T42 l (i : Int) = l[i] := getD_get _ l i hi
    simp only [spec_GoodGoal.l1, wrap_succ hi hl, hget, specTime, Option.bind_some]
    rw [List.drop_eq_getElem_cons hi, List.all_cons]
    generalize l[i] = x
    rw [show burnB x = (decide (1 ≤ x.f1) && (decide (x.f1 ≤ x.f0) && (decide (x.f0 ≤ 1000000000000) && (decide (1 ≤ x.f2) && (decide (x.f2 ≤ 1000000) && timeB x.f3))))) from rfl]
    refine EvP.pos (by omega) (EvP.pos (by omega) (EvP.pos (by omega) ?_))
    refine EvP.ite (fun h1 => EvP.now (by rw [decide_eq_false (by omega : ¬ 1 ≤ x.f1)]; rfl)) (fun h1 => ?_)
    refine EvP.ite (fun h2 => EvP.now (by rw [decide_eq_false (by omega : ¬ x.f1 ≤ x.f0)]; simp)) (fun h2 => ?_)
    refine EvP.ite (fun h3 => EvP.now (by rw [decide_eq_false (by omega : ¬ x.f0 ≤ 1000000000000)]; simp)) (fun h3 => ?_)
    refine EvP.ite (fun h4 => EvP.now (by rw [decide_eq_false (by omega : ¬ 1 ≤ x.f2)]; simp)) (fun h4 => ?_)
    refine EvP.ite (fun h5 => EvP.now (by rw [decide_eq_false (by omega : ¬ x.f2 ≤ 1000000)]; simp)) (fun h5 => ?_)
    rw [decide_eq_true (by omega : 1 ≤ x.f1), decide_eq_true (by omega : x.f1 ≤ x.f0), decide_eq_true (by omega : x.f0 ≤ 1000000000000), decide_eq_true (by omega : 1 ≤ x.f2), decide_eq_true (by omega : x.f2 ≤ 1000000)]
    cases timeB x.f3 with
    | true => exact EvP.pos rfl (by simpa using hn)
    | false => exact EvP.neg (by decide) (EvP.now rfl)
theorem specNames_loop (m : List SMt) (hm : m.length ≤ 1048576) (b : List SBr) (hb : b.length ≤ 1048576) (a : ByteArray) (t w : Int) (x y : ByteArray) : ∀ (d i : Nat), i + d = m.length → EvP (fun k => spec_GoodGoal.l0 k m (m.length : Int) (i : Int) a t w x y m b) (fun r => r = restB (m.drop i) b) := by
  intro d
  induction d with
  | zero =>
    intro i h
    refine EvP.step ?_
    simp only [spec_GoodGoal.l0]
    refine EvP.neg (by omega) ?_
    rw [List.drop_of_length_le (by omega)]
    exact (specBurns_loop b hb b.length 0 (by omega)).imp (fun r e => by rw [e]; rfl)
  | succ d ih =>
    intro i h
    have hi : i < m.length := by omega
    have hn := ih (i + 1) (by omega)
    refine EvP.step ?_
    have hget : rd_T40 m (i : Int) = m[i] := getD_get _ m i hi
    simp only [spec_GoodGoal.l0, wrap_succ hi hm, hget]
    rw [List.drop_eq_getElem_cons hi]
    refine EvP.pos (by omega) (EvP.pos (by omega) (EvP.pos (by omega) ?_))
    have hr : restB (m[i] :: m.drop (i + 1)) b = (notName m[i] && restB (m.drop (i + 1)) b) := by unfold restB; rw [List.all_cons, Bool.and_assoc]
    rw [hr, show notName m[i] = !decide (m[i].f0.toList = ([95, 110, 97, 109, 101] : List UInt8)) from rfl]
    refine EvP.ite (fun h1 => EvP.now (by rw [decide_eq_true h1]; rfl)) (fun h1 => ?_)
    rw [decide_eq_false h1]
    simpa using hn
theorem specGoal_ev (a : ByteArray) (t w : Int) (x y : ByteArray) (m : List SMt) (b : List SBr) (hm : m.length ≤ 1048576) (hb : b.length ≤ 1048576) : EvP (fun k => spec_GoodGoal.f k a t w x y m b) (fun r => r = goalB a t w x y m b) := by
  have bad : EvP (fun k => spec_GoodGoal.j0 k true a t w x y m b) (fun r => r = false) := EvP.step (by simp only [spec_GoodGoal.j0, if_true]; exact EvP.now rfl)
  unfold spec_GoodGoal.f goalB
  refine EvP.bind (spec_l2Name_ev a) (fun q e => ?_)
  subst e
  cases nameB a with
  | false => exact EvP.neg (by decide) bad
  | true =>
    refine EvP.pos rfl ?_
    refine EvP.ite (fun h => by rw [decide_eq_false (by omega : ¬ 1 ≤ t)]; exact bad) (fun h1 => ?_)
    refine EvP.ite (fun h => by rw [decide_eq_false (by omega : ¬ t < 1000000), Bool.false_and, Bool.and_false, Bool.and_false]; exact bad) (fun h2 => ?_)
    rw [decide_eq_true (by omega : 1 ≤ t), decide_eq_true (by omega : t < 1000000)]
    refine EvP.ite (fun h => by rw [decide_eq_false (by omega : ¬ 1 ≤ w)]; exact bad) (fun h3 => ?_)
    refine EvP.ite (fun h => by rw [decide_eq_false (by omega : ¬ w ≤ 1000000000000), Bool.false_and]; simpa using bad) (fun h4 => ?_)
    rw [decide_eq_true (by omega : 1 ≤ w), decide_eq_true (by omega : w ≤ 1000000000000)]
    refine EvP.bind (specMetric_ev x) (fun q e => ?_)
    subst e
    cases metricB x with
    | false => exact EvP.neg (by decide) bad
    | true =>
      refine EvP.pos rfl (EvP.bind (specMetric_ev y) (fun q e => ?_))
      subst e
      cases metricB y with
      | false => exact EvP.neg (by decide) bad
      | true =>
        refine EvP.pos rfl (EvP.bind (specMats_ev m hm) (fun q e => ?_))
        subst e
        cases matsB m with
        | false => exact EvP.neg (by decide) bad
        | true =>
          refine EvP.pos rfl ?_
          refine EvP.ite (fun h => by rw [decide_eq_false (by omega : ¬ m.length ≤ 9)]; exact bad) (fun h5 => ?_)
          rw [decide_eq_true (by omega : m.length ≤ 9)]
          by_cases h6 : b.length ≤ 10
          · rw [decide_eq_true h6, decide_eq_false (by omega : ¬ (b.length : Int) > 10)]
            exact EvP.step (by simp only [spec_GoodGoal.j0]; exact EvP.neg (by decide) (specNames_loop m hm b hb a t w x y m.length 0 (by omega)))
          · rw [decide_eq_false h6, decide_eq_true (by omega : (b.length : Int) > 10)]
            exact bad
theorem implBurn_ev (x : SBr) : impl_GoodGoal_3.f x.f0 x.f1 x.f2 x.f3 = some (!burnB x) := by
  unfold impl_GoodGoal_3.f burnB
  by_cases h1 : x.f1 < 1
  · rw [if_pos h1, decide_eq_false (by omega : ¬ 1 ≤ x.f1)]; rfl
  rw [if_neg h1, decide_eq_true (by omega : 1 ≤ x.f1)]
  by_cases h2 : x.f0 < x.f1
  · rw [if_pos h2, decide_eq_false (by omega : ¬ x.f1 ≤ x.f0)]; simp
  rw [if_neg h2, decide_eq_true (by omega : x.f1 ≤ x.f0), implTime, implTime, implTime]
  simp only [Option.bind_some]
  by_cases h3 : x.f0 ≤ 1000000000000
  · have e1 : timeB x.f1 = true := by unfold timeB; rw [decide_eq_true (by omega : 0 ≤ x.f1), decide_eq_true (by omega : x.f1 ≤ 1000000000000)]; rfl
    have e0 : timeB x.f0 = true := by unfold timeB; rw [decide_eq_true (by omega : 0 ≤ x.f0), decide_eq_true h3]; rfl
    rw [e1, e0, decide_eq_true h3, if_pos rfl, if_pos rfl]
    by_cases h4 : x.f2 < 1
    · rw [if_pos h4, decide_eq_false (by omega : ¬ 1 ≤ x.f2)]; rfl
    rw [if_neg h4, decide_eq_true (by omega : 1 ≤ x.f2)]
    by_cases h5 : x.f2 > 1000000
    · rw [if_pos h5, decide_eq_false (by omega : ¬ x.f2 ≤ 1000000)]; rfl
    rw [if_neg h5, decide_eq_true (by omega : x.f2 ≤ 1000000)]
    rfl
  · have e0 : timeB x.f0 = false := by unfold timeB; rw [decide_eq_false h3, Bool.and_false]
    rw [e0, decide_eq_false h3]
    cases timeB x.f1 <;> rfl
theorem any2 (l : List SMt) : any_impl_GoodGoal_2_23.f l = some (!l.all notName) := by
  unfold any_impl_GoodGoal_2_23.f
  rw [← any_not]
  refine anyM_now (fun x => ?_) l
  unfold impl_GoodGoal_2.f notName
  rw [Bool.not_not]
  by_cases h : x.f0.toList = ([95, 110, 97, 109, 101] : List UInt8)
  · rw [h]; rfl
  · rw [decide_eq_false h]; exact congrArg some (beq_eq_false_iff_ne.2 h)
theorem any3 (l : List SBr) : any_impl_GoodGoal_3_25.f l = some (!l.all burnB) := by
  unfold any_impl_GoodGoal_3_25.f
  rw [← any_not]
  exact anyM_now implBurn_ev l
theorem implGoal_ev (a : ByteArray) (t w : Int) (x y : ByteArray) (m : List SMt) (b : List SBr) : EvP (fun k => impl_GoodGoal.f k a t w x y m b) (fun r => r = goalB a t w x y m b) := by
  have bad : EvP (fun k => impl_GoodGoal.j0 k true a t w x y m b) (fun r => r = false) := EvP.step (by simp only [impl_GoodGoal.j0, if_true]; exact EvP.now rfl)
  unfold impl_GoodGoal.f goalB
  refine EvP.bind (impl_isName_ev a) (fun q e => ?_)
  subst e
  cases nameB a with
  | false => exact EvP.neg (by decide) bad
  | true =>
    refine EvP.pos rfl ?_
    refine EvP.bind (P := fun q => q = (decide (1 ≤ t) && decide (t < 1000000))) ?_ (fun q e => ?_)
    · unfold impl_goodTarget.f
      refine EvP.ite (fun h => EvP.now (by rw [decide_eq_true (by omega : 1 ≤ t)]; rfl)) (fun h => EvP.now (by rw [decide_eq_false (by omega : ¬ 1 ≤ t)]; rfl))
    subst e
    rw [Bool.true_and, ← Bool.and_assoc]
    cases decide (1 ≤ t) && decide (t < 1000000) with
    | false => exact EvP.neg (by decide) bad
    | true =>
      refine EvP.pos rfl ?_
      simp only [implTime, Option.bind_some]
      rw [Bool.true_and]
      by_cases h3 : 1 ≤ w
      · by_cases h4 : w ≤ 1000000000000
        · have e : timeB w = true := by unfold timeB; rw [decide_eq_true (by omega : 0 ≤ w), decide_eq_true h4]; rfl
          rw [e, decide_eq_true h3, decide_eq_true h4]
          refine EvP.pos rfl (EvP.neg (by omega) ?_)
          refine EvP.bind (implMetric_ev x) (fun q e => ?_)
          subst e
          cases metricB x with
          | false => exact EvP.neg (by decide) bad
          | true =>
            refine EvP.pos rfl (EvP.bind (implMetric_ev y) (fun q e => ?_))
            subst e
            cases metricB y with
            | false => exact EvP.neg (by decide) bad
            | true =>
              refine EvP.pos rfl (EvP.bind (implMats_ev m) (fun q e => ?_))
              subst e
              cases matsB m with
              | false => exact EvP.neg (by decide) bad
              | true =>
                refine EvP.pos rfl ?_
                refine EvP.ite (fun h => by rw [decide_eq_false (by omega : ¬ m.length ≤ 9)]; exact bad) (fun h5 => ?_)
                rw [decide_eq_true (by omega : m.length ≤ 9)]
                by_cases h6 : b.length ≤ 10
                · rw [decide_eq_true h6, decide_eq_false (by omega : ¬ (b.length : Int) > 10)]
                  refine EvP.step ?_
                  simp only [impl_GoodGoal.j0, any2, any3, Option.bind_some]
                  refine EvP.neg (by decide) ?_
                  unfold restB
                  cases m.all notName with
                  | true => exact EvP.neg (by decide) (EvP.now (by simp))
                  | false => exact EvP.pos rfl (EvP.now rfl)
                · rw [decide_eq_false h6, decide_eq_true (by omega : (b.length : Int) > 10)]
                  exact bad
        · have e : timeB w = false := by unfold timeB; rw [decide_eq_false h4, Bool.and_false]
          rw [e, decide_eq_false h4, Bool.false_and, Bool.and_false]
          exact EvP.neg (by decide) bad
      · rw [decide_eq_false h3, Bool.false_and]
        by_cases h5 : w = 0
        · subst h5
          exact EvP.pos rfl (EvP.pos rfl bad)
        · have e : timeB w = false := by unfold timeB; rw [decide_eq_false (by omega : ¬ 0 ≤ w)]; rfl
          rw [e]
          exact EvP.neg (by decide) bad
abbrev G0 := S25
theorem law (a : ByteArray) (ga : a.size ≤ 9223372036854775807) (t : Int) (gt : (Lit.int .i64 t).wf = true) (w : Int) (gw : (Lit.int .i64 w).wf = true) (x : ByteArray) (gx : x.size ≤ 9223372036854775807) (y : ByteArray) (gy : y.size ≤ 9223372036854775807)
    (m : List S53) (gm : GoodL good53 m) (b : List S57) (gb : GoodL good57 b) : ∃ k, laws_FnExactGoodGoal.f k a t w x y m b = some true := by
  refine EvP.rounds ?_
  unfold laws_FnExactGoodGoal.f
  refine EvP.bind (sz25 ⟨a, t, w, x, y, m, b⟩ ⟨ga, gt, gw, gx, gy, gm, gb⟩ 1048576 (by omega) (by omega)) (fun r hr => ?_)
  refine EvP.ite (fun hc => EvP.now rfl) (fun hc => ?_)
  have hs := hr.2 (by omega)
  have hto := to25 ⟨a, t, w, x, y, m, b⟩ hs
  have hsi := small_conv25 _ hs
  generalize conv25 ⟨a, t, w, x, y, m, b⟩ = q at hto hsi
  refine EvP.bind hto (fun t e => ?_)
  subst e
  refine EvP.bind (specGoal_ev q.f0 q.f1 q.f2 q.f3 q.f4 q.f5 q.f6 hsi.2.2.2.2.2.1.1 hsi.2.2.2.2.2.2.1) (fun b e => ?_)
  subst e
  refine EvP.bind hto (fun t e => ?_)
  subst e
  refine EvP.bind (implGoal_ev q.f0 q.f1 q.f2 q.f3 q.f4 q.f5 q.f6) (fun b e => ?_)
  subst e
  refine EvP.neg (by simp) ?_
  refine EvP.bind hto (fun t e => ?_)
  subst e
  refine EvP.bind (eq25 q hsi) (fun r e => ?_)
  subst e
  exact EvP.pos rfl (EvP.now rfl)
end Go.Proofs.Ytjpgflljnljpgaa.PureFnExactGoodGoal
