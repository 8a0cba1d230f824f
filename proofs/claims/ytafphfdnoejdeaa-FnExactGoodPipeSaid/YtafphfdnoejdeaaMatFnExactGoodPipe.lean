/- What the functions on matchers and patterns compute, the program's and the reference's alike. -/
import Derived.Test.YtafphfdnoejdeaaPrtFnExactGoodPipe
import Derived.Test.YtafphfdnoejdeaaHSpecPattern
import Derived.Test.YtafphfdnoejdeaaHImplPattern
import Derived.Test.YtafphfdnoejdeaaPFnExactGoodPipex5
import Derived.Test.YtafphfdnoejdeaaPFnExactGoodPipex12
namespace Go.Proofs.Ytafphfdnoejdeaa.MatFnExactGoodPipe
open Go.RowKit Go.Proofs.Ytafphfdnoejdeaa.PFnExactGoodPipe Go.Proofs.YtafphfdnoejdeaaW.PrintWords Go.Proofs.YtafphfdnoejdeaaW.PrintLast Go.Proofs.Ytafphfdnoejdeaa.Evs Go.Proofs.Ytafphfdnoejdeaa.AFnExactGoodPipe Go.Proofs.Ytafphfdnoejdeaa.PrtFnExactGoodPipe Go.Proofs.Ytafphfdnoejdeaa.Pat
set_option linter.unusedVariables false
abbrev SMt := S39
/-- The answers of a function with rounds at each element: whether one is yes. -/
theorem anyM_ev {α : Type} {g : Nat → α → Option Bool} {b : α → Bool} : ∀ (l : List α), (∀ x ∈ l, EvP (fun k => g k x) (fun r => r = b x)) → EvP (fun k => Idx.anyM (g k) l) (fun r => r = l.any b)
 | [], _ => EvP.now rfl
 | x :: xs, h => by
  unfold Idx.anyM
  refine EvP.bind (h x (List.mem_cons_self ..)) (fun t e => ?_)
  subst e
  rw [List.any_cons]
  cases hb : b x with
  | true => exact EvP.pos rfl (EvP.now rfl)
  | false => exact EvP.neg (by decide) (by simpa using anyM_ev xs (fun y hy => h y (List.mem_cons_of_mem _ hy)))
theorem anyM_now {α : Type} {g : α → Option Bool} {b : α → Bool} (h : ∀ x, g x = some (b x)) : ∀ l : List α, Idx.anyM g l = some (l.any b)
 | [] => rfl
 | x :: xs => by
  unfold Idx.anyM
  rw [h, Option.bind_some, List.any_cons]
  cases b x with
  | true => rfl
  | false => exact (if_neg (by decide)).trans (by rw [Bool.false_or]; exact anyM_now h xs)
def patB (s : ByteArray) : Bool := decide (s.size ≤ 100) && (printedB s && okP s)
theorem specPat_ev (s : ByteArray) : EvP (fun k => spec_GoodPattern.f k s) (fun r => r = patB s) := by
 unfold spec_GoodPattern.f patB
 refine EvP.ite (fun h => EvP.now (by rw [decide_eq_false (by omega)]; rfl)) (fun h => ?_)
 rw [decide_eq_true (by omega : s.size ≤ 100), Bool.true_and]
 refine EvP.bind (specPrinted_ev s (by omega)) (fun t e => ?_)
 subst e
 cases printedB s with
 | true => exact EvP.pos rfl (EvP.now (by rw [Bool.true_and]))
 | false => exact EvP.neg (by decide) (EvP.now rfl)
theorem implPat_ev (s : ByteArray) : EvP (fun k => impl_GoodPattern.f k s) (fun r => r = patB s) := by
 unfold impl_GoodPattern.f patB
 refine EvP.bind (implPrinted_ev s 100 (by omega)) (fun t e => ?_)
 subst e
 by_cases h : s.size ≤ 100
 ·rw [decide_eq_true (by omega : (s.size : Int) ≤ 100), decide_eq_true h, Bool.true_and, Bool.true_and]
  cases printedB s with
  | true => exact EvP.pos rfl (EvP.pos h (EvP.now (by rw [Bool.true_and])))
  | false => exact EvP.neg (by decide) (EvP.now rfl)
 ·rw [decide_eq_false (by omega : ¬ (s.size : Int) ≤ 100), decide_eq_false h, Bool.false_and, Bool.false_and]
  exact EvP.neg (by decide) (EvP.now rfl)
def matB (x : SMt) : Bool := nameB x.f0 && (decide (1 ≤ x.f1) && (decide (x.f1 ≤ 4) && (decide (x.f2.size ≤ 100) && (printedB x.f2 && (decide (x.f1 < 3) || patB x.f2)))))
def matsB (l : List SMt) : Bool := decide (l.length ≤ 10) && l.all matB
theorem specMats_loop (l : List SMt) (hl : l.length ≤ 1048576) : ∀ (d i : Nat), i + d = l.length → EvP (fun k => spec_GoodMatchers.l0 k l (l.length : Int) (i : Int)) (fun r => r = (l.drop i).all matB) := by
 intro d
 induction d with
 | zero =>
  intro i h
  refine EvP.step ?_
  simp only [spec_GoodMatchers.l0]
  refine EvP.neg (by omega) (EvP.now ?_)
  rw [List.drop_of_length_le (by omega)]; rfl
 | succ d ih =>
  intro i h
  have hi : i < l.length := by omega
  have hn := ih (i + 1) (by omega)
  refine EvP.step ?_
  simp only [spec_GoodMatchers.l0, wrap_succ hi hl]
  rw [List.drop_eq_getElem_cons hi, List.all_cons]
  have hget : rd_T39 l (i : Int) = l[i] := getD_get _ l i hi
  simp only [hget]
  generalize l[i] = x
  rw [show matB x = (nameB x.f0 && (decide (1 ≤ x.f1) && (decide (x.f1 ≤ 4) && (decide (x.f2.size ≤ 100) && (printedB x.f2 && (decide (x.f1 < 3) || patB x.f2)))))) from rfl]
  refine EvP.pos (by omega) (EvP.pos (by omega) (EvP.pos (by omega) ?_))
  refine EvP.bind (spec_l2Name_ev x.f0) (fun t e => ?_)
  subst e
  cases nameB x.f0 with
  | false => exact EvP.neg (by decide) (EvP.now rfl)
  | true =>
   refine EvP.pos rfl ?_
   refine EvP.ite (fun h1 => EvP.now (by rw [decide_eq_false (by omega : ¬ 1 ≤ x.f1)]; rfl)) (fun h1 => ?_)
   refine EvP.ite (fun h2 => EvP.now (by rw [decide_eq_false (by omega : ¬ x.f1 ≤ 4)]; simp)) (fun h2 => ?_)
   refine EvP.ite (fun h3 => EvP.now (by rw [decide_eq_false (by omega : ¬ x.f2.size ≤ 100)]; simp)) (fun h3 => ?_)
   rw [decide_eq_true (by omega : 1 ≤ x.f1), decide_eq_true (by omega : x.f1 ≤ 4), decide_eq_true (by omega : x.f2.size ≤ 100)]
   refine EvP.bind (specPrinted_ev x.f2 (by omega)) (fun t e => ?_)
   subst e
   cases printedB x.f2 with
   | false => exact EvP.neg (by decide) (EvP.now rfl)
   | true =>
    refine EvP.pos rfl ?_
    refine EvP.ite (fun h4 => ?_) (fun h4 => ?_)
    ·rw [decide_eq_false (by omega : ¬ x.f1 < 3)]
     refine EvP.bind (specPat_ev x.f2) (fun t e => ?_)
     subst e
     cases patB x.f2 with
     | false => exact EvP.neg (by decide) (EvP.now rfl)
     | true => exact EvP.pos rfl (by simpa using hn)
    ·rw [decide_eq_true (by omega : x.f1 < 3)]
     simpa using hn
theorem specMats_ev (l : List SMt) (hl : l.length ≤ 1048576) : EvP (fun k => spec_GoodMatchers.f k l) (fun r => r = matsB l) := by
 unfold spec_GoodMatchers.f matsB
 refine EvP.ite (fun h => EvP.now (by rw [decide_eq_false (by omega)]; rfl)) (fun h => ?_)
 rw [decide_eq_true (by omega : l.length ≤ 10), Bool.true_and]
 exact specMats_loop l hl l.length 0 (by omega)
theorem implMat_ev (x : SMt) : EvP (fun k => impl_goodMatcher.f k x.f0 x.f1 x.f2) (fun r => r = matB x) := by
 unfold impl_goodMatcher.f matB
 refine EvP.bind (impl_isName_ev x.f0) (fun t e => ?_)
 subst e
 cases nameB x.f0 with
 | false => exact EvP.neg (by decide) (EvP.now rfl)
 | true =>
  refine EvP.pos rfl ?_
  refine EvP.ite (fun h1 => EvP.now (by rw [decide_eq_false (by omega : ¬ 1 ≤ x.f1)]; rfl)) (fun h1 => ?_)
  refine EvP.ite (fun h2 => EvP.now (by rw [decide_eq_false (by omega : ¬ x.f1 ≤ 4)]; simp)) (fun h2 => ?_)
  rw [decide_eq_true (by omega : 1 ≤ x.f1), decide_eq_true (by omega : x.f1 ≤ 4)]
  refine EvP.bind (implPrinted_ev x.f2 100 (by omega)) (fun t e => ?_)
  subst e
  by_cases h3 : x.f2.size ≤ 100
  ·rw [decide_eq_true (by omega : (x.f2.size : Int) ≤ 100), decide_eq_true h3, Bool.true_and]
   cases printedB x.f2 with
   | false => exact EvP.neg (by decide) (EvP.now rfl)
   | true =>
    refine EvP.pos rfl ?_
    refine EvP.ite (fun h4 => EvP.now (by rw [decide_eq_true h4]; rfl)) (fun h4 => ?_)
    rw [decide_eq_false h4]
    refine EvP.bind (implPat_ev x.f2) (fun t e => EvP.now (by rw [e]; simp))
  ·rw [decide_eq_false (by omega : ¬ (x.f2.size : Int) ≤ 100), decide_eq_false h3, Bool.false_and]
   exact EvP.neg (by decide) (EvP.now rfl)
theorem any_not {α : Type} (l : List α) (b : α → Bool) : l.any (fun x => !b x) = !l.all b := by
 induction l with
 | nil => rfl
 | cons x xs ih => rw [List.any_cons, List.all_cons, ih, Bool.not_and]
theorem implMats_ev (l : List SMt) : EvP (fun k => impl_GoodMatchers.f k l) (fun r => r = matsB l) := by
 unfold impl_GoodMatchers.f matsB
 refine EvP.ite (fun h => ?_) (fun h => EvP.now (by rw [decide_eq_false (by omega)]; rfl))
 rw [decide_eq_true (by omega : l.length ≤ 10), Bool.true_and]
 refine EvP.bind (P := fun r => r = l.any (fun x => !matB x)) ?_ (fun t e => EvP.now (by rw [e, any_not, Bool.not_not]))
 exact anyM_ev l (fun x _ => EvP.bind (implMat_ev x) (fun t e => EvP.now (by rw [e])))
end Go.Proofs.Ytafphfdnoejdeaa.MatFnExactGoodPipe
