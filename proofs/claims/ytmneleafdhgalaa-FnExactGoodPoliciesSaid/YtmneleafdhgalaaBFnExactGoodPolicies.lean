/- What the law's own helpers compute (sizes, copies, comparisons). Written by a program of this repo's (plaingen.py). -/
import Derived.Test.YtmneleafdhgalaaGFnExactGoodPolicies
import Derived.Test.YtmneleafdhgalaaEv
import Derived.Test.YtmneleafdhgalaaPFnExactGoodPoliciesx1
import Derived.Test.YtmneleafdhgalaaPFnExactGoodPoliciesx2
import Derived.Test.YtmneleafdhgalaaPFnExactGoodPoliciesx3
namespace Go.Proofs.Ytmneleafdhgalaa.BFnExactGoodPolicies
open Go.RowKit Go.Proofs.Ytmneleafdhgalaa.PFnExactGoodPolicies Go.Proofs.YtmneleafdhgalaaW.PrintWords Go.Proofs.YtmneleafdhgalaaW.PrintLast Go.Proofs.Ytmneleafdhgalaa.Opn Go.Proofs.Ytmneleafdhgalaa.GFnExactGoodPolicies Go.Proofs.Ytmneleafdhgalaa.Evs
set_option linter.unusedVariables false
/-! loop.example/g00039/laws.Policy -/
def small70 (x : S70) : Prop := True ∧ True ∧ x.f2.size ≤ 1048576
def conv70 (x : S70) : S71 := ⟨x.f0, x.f1, x.f2⟩
theorem rdT70 (l : List S70) (i : Nat) (h : i < l.length) : rd_T70 l (i : Int) = l[i] := getD_get _ l i h
theorem rdT71 (l : List S71) (i : Nat) (h : i < l.length) : rd_T71 l (i : Int) = l[i] := getD_get _ l i h
theorem sz70 (x : S70) (hg : good70 x) (left : Int) (h0 : 0 ≤ left) (h1 : left ≤ 1048576) : EvP (fun k => laws_szPolicy.f x.f0 x.f1 x.f2 left) (fun r => r ≤ left ∧ (0 ≤ r → small70 x)) := by
  unfold laws_szPolicy.f
  obtain ⟨g0, g1, g2⟩ := hg
  have e2 : wrap64 (left - (x.f2.size : Int)) = left - (x.f2.size : Int) := w64 (by omega) (by omega)
  simp only [e2]
  refine EvP.ite (fun hc => EvP.now ⟨by omega, fun h => by omega⟩) (fun hc2 => ?_)
  have s2 : x.f2.size ≤ 1048576 := by omega
  have p2 : 0 ≤ left - (x.f2.size : Int) := by omega
  exact EvP.now ⟨by omega, fun _ => ⟨trivial, trivial, s2⟩⟩
theorem to70 (x : S70) (hs : small70 x) : EvP (fun k => laws_toPolicy.f x.f0 x.f1 x.f2) (fun r => r = ((conv70 x).f0, (conv70 x).f1, (conv70 x).f2)) := by
  unfold laws_toPolicy.f
  obtain ⟨s0, s1, s2⟩ := hs
  exact EvP.now rfl
def smalli70 (x : S71) : Prop := True ∧ True ∧ x.f2.size ≤ 1048576
theorem eq70 (x : S71) (hs : smalli70 x) : EvP (fun k => laws_eqPolicy.f x.f0 x.f1 x.f2 x.f0 x.f1 x.f2) (fun r => r = true) := by
  unfold laws_eqPolicy.f
  obtain ⟨s0, s1, s2⟩ := hs
  refine EvP.pos rfl ?_
  refine EvP.pos rfl ?_
  refine EvP.pos rfl ?_
  exact EvP.now rfl
theorem small_conv70 (x : S70) (hs : small70 x) : smalli70 (conv70 x) := by
  obtain ⟨s0, s1, s2⟩ := hs
  exact ⟨s0, s1, s2⟩
/-! lists of loop.example/g00039/laws.Policy -/
theorem szL38 (l : List (S70)) (hg : GoodL good70 l) : ∀ (d i : Nat) (left : Int), i + d = l.length → l.length ≤ 1048576 → 0 ≤ left → left ≤ 1048576 → (∀ j y, j < i → l[j]? = some y → small70 y) →
    EvP (fun k => laws_szPolicyS.l0 k l left (i : Int)) (fun r => r ≤ left ∧ (0 ≤ r → ∀ y ∈ l, small70 y)) := by
  intro d
  induction d with
  | zero =>
    intro i left h hl h0 h1 hd
    refine EvP.step ?_
    simp only [laws_szPolicyS.l0]
    refine EvP.neg (by omega) (EvP.now ⟨Int.le_refl _, fun _ y hy => ?_⟩)
    obtain ⟨j, hj⟩ := List.getElem?_of_mem hy
    exact hd j y (by have := (List.getElem?_eq_some_iff.1 hj).1; omega) hj
  | succ d ih =>
    intro i left h hl h0 h1 hd
    have hi : i < l.length := by omega
    refine EvP.step ?_
    simp only [laws_szPolicyS.l0, wrap_succ hi hl, rdT70 l i hi]
    refine EvP.pos (by omega) (EvP.pos (by omega) ?_)
    refine EvP.bind (sz70 l[i] (hg.2 _ (List.getElem_mem _)) left h0 h1) (fun r hr => ?_)
    refine EvP.ite (fun hc => EvP.now ⟨by omega, fun h => by omega⟩) (fun hc => ?_)
    refine (ih (i + 1) r (by omega) hl (by omega) (by omega) (fun j y hj hy => ?_)).imp (fun q hq => ⟨by omega, hq.2⟩)
    · by_cases hji : j = i
      · subst hji
        rw [List.getElem?_eq_getElem hi] at hy
        obtain rfl := Option.some.inj hy
        exact hr.2 (by omega)
      · exact hd j y (by omega) hy
theorem szS38 (l : List (S70)) (hg : GoodL good70 l) (left : Int) (h0 : 0 ≤ left) (h1 : left ≤ 1048576) : EvP (fun k => laws_szPolicyS.f k l left) (fun r => r ≤ left ∧ (0 ≤ r → (l.length ≤ 1048576 ∧ ∀ y ∈ l, small70 y))) := by
  have hl := hg.1
  unfold laws_szPolicyS.f
  have e : wrap64 (left - (l.length : Int)) = left - (l.length : Int) := w64 (by omega) (by omega)
  simp only [e]
  refine EvP.ite (fun hc => EvP.now ⟨by omega, fun h => by omega⟩) (fun hc => ?_)
  exact (szL38 l hg l.length 0 _ (by omega) (by omega) (by omega) (by omega) (fun j y hj _ => by omega)).imp (fun r hr => ⟨by omega, fun h => ⟨by omega, hr.2 h⟩⟩)
theorem toL38 (l : List (S70)) (hs : (l.length ≤ 1048576 ∧ ∀ y ∈ l, small70 y)) : ∀ (d i : Nat) (acc : List (S71)), i + d = l.length → acc.length = l.length → acc.take i = (l.take i).map conv70 → EvP (fun k => laws_toPolicyS.l0 k l acc (i : Int)) (fun r => r = l.map conv70) := by
  have hl := hs.1
  intro d
  induction d with
  | zero =>
    intro i acc h ha ht
    refine EvP.step ?_
    simp only [laws_toPolicyS.l0]
    refine EvP.neg (by omega) (EvP.now ?_)
    obtain rfl : i = l.length := by omega
    exact take_all l _ acc ha ht
  | succ d ih =>
    intro i acc h ha ht
    have hi : i < l.length := by omega
    have hst := take_conv l conv70 acc i hi ha ht
    refine EvP.step ?_
    simp only [laws_toPolicyS.l0, wrap_succ hi hl, rdT70 l i hi, Int.toNat_natCast]
    refine EvP.pos (by omega) (EvP.pos (by omega) ?_)
    refine EvP.bind (to70 l[i] (hs.2 _ (List.getElem_mem _))) (fun r hr => ?_)
    subst hr
    refine EvP.pos (by omega) ?_
    exact ih (i + 1) _ (by omega) hst.1 hst.2
theorem toS38 (l : List (S70)) (hs : (l.length ≤ 1048576 ∧ ∀ y ∈ l, small70 y)) : EvP (fun k => laws_toPolicyS.f k l) (fun r => r = (l.map conv70)) := by
  have hl := hs.1
  unfold laws_toPolicyS.f
  refine EvP.pos (by omega) (EvP.pos (by omega) ?_)
  refine (toL38 l hs l.length 0 _ (by omega) (by simp) (by simp)).imp (fun r hr => ?_)
  rw [hr]
theorem eqL38 (l : List (S71)) (hs : (l.length ≤ 1048576 ∧ ∀ y ∈ l, smalli70 y)) : ∀ (d i : Nat), i + d = l.length → EvP (fun k => laws_eqPolicyS.l0 k l l (i : Int)) (fun r => r = true) := by
  have hl := hs.1
  intro d
  induction d with
  | zero =>
    intro i h
    refine EvP.step ?_
    simp only [laws_eqPolicyS.l0]
    exact EvP.neg (by omega) (EvP.now rfl)
  | succ d ih =>
    intro i h
    have hi : i < l.length := by omega
    refine EvP.step ?_
    simp only [laws_eqPolicyS.l0, wrap_succ hi hl, rdT71 l i hi]
    refine EvP.pos (by omega) (EvP.pos (by omega) (EvP.pos (by omega) ?_))
    refine EvP.bind (eq70 l[i] (hs.2 _ (List.getElem_mem _))) (fun r hr => ?_)
    subst hr
    refine EvP.pos rfl ?_
    exact ih (i + 1) (by omega)
theorem eqS38 (l : List (S71)) (hs : (l.length ≤ 1048576 ∧ ∀ y ∈ l, smalli70 y)) : EvP (fun k => laws_eqPolicyS.f k l l) (fun r => r = true) := by
  unfold laws_eqPolicyS.f
  simp only [if_true]
  exact eqL38 l hs l.length 0 (by omega)
theorem small_convS38 (l : List (S70)) (hs : (l.length ≤ 1048576 ∧ ∀ y ∈ l, small70 y)) : ((l.map conv70).length ≤ 1048576 ∧ ∀ y ∈ (l.map conv70), smalli70 y) := by
  refine ⟨by rw [List.length_map]; exact hs.1, fun y hy => ?_⟩
  obtain ⟨z, hz, rfl⟩ := List.mem_map.1 hy
  exact small_conv70 z (hs.2 z hz)
end Go.Proofs.Ytmneleafdhgalaa.BFnExactGoodPolicies
