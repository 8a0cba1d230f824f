/- What the law's own helpers compute (sizes, copies, comparisons). Written by a program of this repo's (plaingen.py). -/
import Derived.Test.YtjpgflljnljpgaaGFnExactGoodGoal
import Derived.Test.YtjpgflljnljpgaaEv
import Derived.Test.YtjpgflljnljpgaaPFnExactGoodGoalx1
import Derived.Test.YtjpgflljnljpgaaPFnExactGoodGoalx5
import Derived.Test.YtjpgflljnljpgaaPFnExactGoodGoalx7
import Derived.Test.YtjpgflljnljpgaaPFnExactGoodGoalx8
import Derived.Test.YtjpgflljnljpgaaPFnExactGoodGoalx9
namespace Go.Proofs.Ytjpgflljnljpgaa.BFnExactGoodGoal
open Go.RowKit Go.Proofs.Ytjpgflljnljpgaa.PFnExactGoodGoal Go.Proofs.YtjpgflljnljpgaaW.PrintWords Go.Proofs.YtjpgflljnljpgaaW.PrintLast Go.Proofs.Ytjpgflljnljpgaa.Opn Go.Proofs.Ytjpgflljnljpgaa.GFnExactGoodGoal Go.Proofs.Ytjpgflljnljpgaa.Evs
set_option linter.unusedVariables false
structure S25 where
  f0 : ByteArray
  f1 : Int
  f2 : Int
  f3 : ByteArray
  f4 : ByteArray
  f5 : List (S53)
  f6 : List (S57)
def good25 (x : S25) : Prop := x.f0.size ≤ 9223372036854775807 ∧ (Lit.int .i64 x.f1).wf = true ∧ (Lit.int .i64 x.f2).wf = true ∧ x.f3.size ≤ 9223372036854775807 ∧ x.f4.size ≤ 9223372036854775807 ∧ GoodL good53 x.f5 ∧ GoodL good57 x.f6
structure S31 where
  f0 : ByteArray
  f1 : Int
  f2 : Int
  f3 : ByteArray
  f4 : ByteArray
  f5 : List (S40)
  f6 : List (S42)
/-! loop.example/g00039/laws.Matcher -/
def small53 (x : S53) : Prop := x.f0.size ≤ 1048576 ∧ True ∧ x.f2.size ≤ 1048576
def conv53 (x : S53) : S40 := ⟨x.f0, x.f1, x.f2⟩
theorem rdT53 (l : List S53) (i : Nat) (h : i < l.length) : rd_T53 l (i : Int) = l[i] := getD_get _ l i h
theorem rdT40 (l : List S40) (i : Nat) (h : i < l.length) : rd_T40 l (i : Int) = l[i] := getD_get _ l i h
theorem sz53 (x : S53) (hg : good53 x) (left : Int) (h0 : 0 ≤ left) (h1 : left ≤ 1048576) : EvP (fun k => laws_szMatcher.f x.f0 x.f1 x.f2 left) (fun r => r ≤ left ∧ (0 ≤ r → small53 x)) := by
  unfold laws_szMatcher.f
  obtain ⟨g0, g1, g2⟩ := hg
  have e0 : wrap64 (left - (x.f0.size : Int)) = left - (x.f0.size : Int) := Evs.w64 (by omega) (by omega)
  simp only [e0]
  refine EvP.ite (fun hc => EvP.now ⟨by omega, fun h => by omega⟩) (fun hc0 => ?_)
  have s0 : x.f0.size ≤ 1048576 := by omega
  have p0 : 0 ≤ left - (x.f0.size : Int) := by omega
  have e2 : wrap64 ((left - (x.f0.size : Int)) - (x.f2.size : Int)) = (left - (x.f0.size : Int)) - (x.f2.size : Int) := Evs.w64 (by omega) (by omega)
  simp only [e2]
  refine EvP.ite (fun hc => EvP.now ⟨by omega, fun h => by omega⟩) (fun hc2 => ?_)
  have s2 : x.f2.size ≤ 1048576 := by omega
  have p2 : 0 ≤ (left - (x.f0.size : Int)) - (x.f2.size : Int) := by omega
  exact EvP.now ⟨by omega, fun _ => ⟨s0, trivial, s2⟩⟩
theorem to53 (x : S53) (hs : small53 x) : EvP (fun k => laws_toMatcher.f x.f0 x.f1 x.f2) (fun r => r = ((conv53 x).f0, (conv53 x).f1, (conv53 x).f2)) := by
  unfold laws_toMatcher.f
  obtain ⟨s0, s1, s2⟩ := hs
  exact EvP.now rfl
def smalli53 (x : S40) : Prop := x.f0.size ≤ 1048576 ∧ True ∧ x.f2.size ≤ 1048576
theorem eq53 (x : S40) (hs : smalli53 x) : EvP (fun k => laws_eqMatcher.f x.f0 x.f1 x.f2 x.f0 x.f1 x.f2) (fun r => r = true) := by
  unfold laws_eqMatcher.f
  obtain ⟨s0, s1, s2⟩ := hs
  refine EvP.pos rfl ?_
  refine EvP.pos rfl ?_
  refine EvP.pos rfl ?_
  exact EvP.now rfl
theorem small_conv53 (x : S53) (hs : small53 x) : smalli53 (conv53 x) := by
  obtain ⟨s0, s1, s2⟩ := hs
  exact ⟨s0, s1, s2⟩
/-! lists of loop.example/g00039/laws.Matcher -/
theorem szL22 (l : List (S53)) (hg : GoodL good53 l) : ∀ (d i : Nat) (left : Int), i + d = l.length → l.length ≤ 1048576 → 0 ≤ left → left ≤ 1048576 → (∀ j y, j < i → l[j]? = some y → small53 y) →
    EvP (fun k => laws_szMatcherS.l0 k l left (i : Int)) (fun r => r ≤ left ∧ (0 ≤ r → ∀ y ∈ l, small53 y)) := by
  intro d
  induction d with
  | zero =>
    intro i left h hl h0 h1 hd
    refine EvP.step ?_
    simp only [laws_szMatcherS.l0]
    refine EvP.neg (by omega) (EvP.now ⟨Int.le_refl _, fun _ y hy => ?_⟩)
    obtain ⟨j, hj⟩ := List.getElem?_of_mem hy
    exact hd j y (by have := (List.getElem?_eq_some_iff.1 hj).1; omega) hj
  | succ d ih =>
    intro i left h hl h0 h1 hd
    have hi : i < l.length := by omega
    refine EvP.step ?_
    simp only [laws_szMatcherS.l0, wrap_succ hi hl, rdT53 l i hi]
    refine EvP.pos (by omega) (EvP.pos (by omega) ?_)
    refine EvP.bind (sz53 l[i] (hg.2 _ (List.getElem_mem _)) left h0 h1) (fun r hr => ?_)
    refine EvP.ite (fun hc => EvP.now ⟨by omega, fun h => by omega⟩) (fun hc => ?_)
    refine (ih (i + 1) r (by omega) hl (by omega) (by omega) (fun j y hj hy => ?_)).imp (fun q hq => ⟨by omega, hq.2⟩)
    · by_cases hji : j = i
      · subst hji
        rw [List.getElem?_eq_getElem hi] at hy
        obtain rfl := Option.some.inj hy
        exact hr.2 (by omega)
      · exact hd j y (by omega) hy
theorem szS22 (l : List (S53)) (hg : GoodL good53 l) (left : Int) (h0 : 0 ≤ left) (h1 : left ≤ 1048576) : EvP (fun k => laws_szMatcherS.f k l left) (fun r => r ≤ left ∧ (0 ≤ r → (l.length ≤ 1048576 ∧ ∀ y ∈ l, small53 y))) := by
  have hl := hg.1
  unfold laws_szMatcherS.f
  have e : wrap64 (left - (l.length : Int)) = left - (l.length : Int) := Evs.w64 (by omega) (by omega)
  simp only [e]
  refine EvP.ite (fun hc => EvP.now ⟨by omega, fun h => by omega⟩) (fun hc => ?_)
  exact (szL22 l hg l.length 0 _ (by omega) (by omega) (by omega) (by omega) (fun j y hj _ => by omega)).imp (fun r hr => ⟨by omega, fun h => ⟨by omega, hr.2 h⟩⟩)
theorem toL22 (l : List (S53)) (hs : (l.length ≤ 1048576 ∧ ∀ y ∈ l, small53 y)) : ∀ (d i : Nat) (acc : List (S40)), i + d = l.length → acc.length = l.length → acc.take i = (l.take i).map conv53 → EvP (fun k => laws_toMatcherS.l0 k l acc (i : Int)) (fun r => r = l.map conv53) := by
  have hl := hs.1
  intro d
  induction d with
  | zero =>
    intro i acc h ha ht
    refine EvP.step ?_
    simp only [laws_toMatcherS.l0]
    refine EvP.neg (by omega) (EvP.now ?_)
    obtain rfl : i = l.length := by omega
    exact take_all l _ acc ha ht
  | succ d ih =>
    intro i acc h ha ht
    have hi : i < l.length := by omega
    have hst := take_conv l conv53 acc i hi ha ht
    refine EvP.step ?_
    simp only [laws_toMatcherS.l0, wrap_succ hi hl, rdT53 l i hi, Int.toNat_natCast]
    refine EvP.pos (by omega) (EvP.pos (by omega) ?_)
    refine EvP.bind (to53 l[i] (hs.2 _ (List.getElem_mem _))) (fun r hr => ?_)
    subst hr
    refine EvP.pos (by omega) ?_
    exact ih (i + 1) _ (by omega) hst.1 hst.2
theorem toS22 (l : List (S53)) (hs : (l.length ≤ 1048576 ∧ ∀ y ∈ l, small53 y)) : EvP (fun k => laws_toMatcherS.f k l) (fun r => r = (l.map conv53)) := by
  have hl := hs.1
  unfold laws_toMatcherS.f
  refine EvP.pos (by omega) (EvP.pos (by omega) ?_)
  refine (toL22 l hs l.length 0 _ (by omega) (by simp) (by simp)).imp (fun r hr => ?_)
  rw [hr]
theorem eqL22 (l : List (S40)) (hs : (l.length ≤ 1048576 ∧ ∀ y ∈ l, smalli53 y)) : ∀ (d i : Nat), i + d = l.length → EvP (fun k => laws_eqMatcherS.l0 k l l (i : Int)) (fun r => r = true) := by
  have hl := hs.1
  intro d
  induction d with
  | zero =>
    intro i h
    refine EvP.step ?_
    simp only [laws_eqMatcherS.l0]
    exact EvP.neg (by omega) (EvP.now rfl)
  | succ d ih =>
    intro i h
    have hi : i < l.length := by omega
    refine EvP.step ?_
    simp only [laws_eqMatcherS.l0, wrap_succ hi hl, rdT40 l i hi]
    refine EvP.pos (by omega) (EvP.pos (by omega) (EvP.pos (by omega) ?_))
    refine EvP.bind (eq53 l[i] (hs.2 _ (List.getElem_mem _))) (fun r hr => ?_)
    subst hr
    refine EvP.pos rfl ?_
    exact ih (i + 1) (by omega)
theorem eqS22 (l : List (S40)) (hs : (l.length ≤ 1048576 ∧ ∀ y ∈ l, smalli53 y)) : EvP (fun k => laws_eqMatcherS.f k l l) (fun r => r = true) := by
  unfold laws_eqMatcherS.f
  simp only [if_true]
  exact eqL22 l hs l.length 0 (by omega)
theorem small_convS22 (l : List (S53)) (hs : (l.length ≤ 1048576 ∧ ∀ y ∈ l, small53 y)) : ((l.map conv53).length ≤ 1048576 ∧ ∀ y ∈ (l.map conv53), smalli53 y) := by
  refine ⟨by rw [List.length_map]; exact hs.1, fun y hy => ?_⟩
  obtain ⟨z, hz, rfl⟩ := List.mem_map.1 hy
  exact small_conv53 z (hs.2 z hz)
/-! loop.example/g00039/laws.BurnRule -/
def small57 (x : S57) : Prop := True ∧ True ∧ True ∧ True
def conv57 (x : S57) : S42 := ⟨x.f0, x.f1, x.f2, x.f3⟩
theorem rdT57 (l : List S57) (i : Nat) (h : i < l.length) : rd_T57 l (i : Int) = l[i] := getD_get _ l i h
theorem rdT42 (l : List S42) (i : Nat) (h : i < l.length) : rd_T42 l (i : Int) = l[i] := getD_get _ l i h
theorem to57 (x : S57) (hs : small57 x) : EvP (fun k => laws_toBurnRule.f x.f0 x.f1 x.f2 x.f3) (fun r => r = ((conv57 x).f0, (conv57 x).f1, (conv57 x).f2, (conv57 x).f3)) := by
  unfold laws_toBurnRule.f
  obtain ⟨s0, s1, s2, s3⟩ := hs
  exact EvP.now rfl
def smalli57 (x : S42) : Prop := True ∧ True ∧ True ∧ True
theorem eq57 (x : S42) (hs : smalli57 x) : EvP (fun k => laws_eqBurnRule.f x.f0 x.f1 x.f2 x.f3 x.f0 x.f1 x.f2 x.f3) (fun r => r = true) := by
  unfold laws_eqBurnRule.f
  obtain ⟨s0, s1, s2, s3⟩ := hs
  refine EvP.pos rfl ?_
  refine EvP.pos rfl ?_
  refine EvP.pos rfl ?_
  refine EvP.pos rfl ?_
  exact EvP.now rfl
theorem small_conv57 (x : S57) (hs : small57 x) : smalli57 (conv57 x) := by
  obtain ⟨s0, s1, s2, s3⟩ := hs
  exact ⟨s0, s1, s2, s3⟩
/-! lists of loop.example/g00039/laws.BurnRule -/
theorem szS23 (l : List (S57)) (hg : GoodL good57 l) (left : Int) (h0 : 0 ≤ left) (h1 : left ≤ 1048576) : EvP (fun k => laws_szBurnRuleS.f l left) (fun r => r ≤ left ∧ (0 ≤ r → (l.length ≤ 1048576 ∧ ∀ y ∈ l, small57 y))) := by
  have hl := hg.1
  unfold laws_szBurnRuleS.f
  have e : wrap64 (left - (l.length : Int)) = left - (l.length : Int) := Evs.w64 (by omega) (by omega)
  simp only [e]
  refine EvP.ite (fun hc => EvP.now ⟨by omega, fun h => by omega⟩) (fun hc => ?_)
  exact EvP.now ⟨by omega, fun _ => ⟨by omega, fun _ _ => by first | trivial | exact ⟨trivial, trivial⟩ | exact ⟨trivial, trivial, trivial⟩⟩⟩
theorem toL23 (l : List (S57)) (hs : (l.length ≤ 1048576 ∧ ∀ y ∈ l, small57 y)) : ∀ (d i : Nat) (acc : List (S42)), i + d = l.length → acc.length = l.length → acc.take i = (l.take i).map conv57 → EvP (fun k => laws_toBurnRuleS.l0 k l acc (i : Int)) (fun r => r = l.map conv57) := by
  have hl := hs.1
  intro d
  induction d with
  | zero =>
    intro i acc h ha ht
    refine EvP.step ?_
    simp only [laws_toBurnRuleS.l0]
    refine EvP.neg (by omega) (EvP.now ?_)
    obtain rfl : i = l.length := by omega
    exact take_all l _ acc ha ht
  | succ d ih =>
    intro i acc h ha ht
    have hi : i < l.length := by omega
    have hst := take_conv l conv57 acc i hi ha ht
    refine EvP.step ?_
    simp only [laws_toBurnRuleS.l0, wrap_succ hi hl, rdT57 l i hi, Int.toNat_natCast]
    refine EvP.pos (by omega) (EvP.pos (by omega) ?_)
    refine EvP.bind (to57 l[i] (hs.2 _ (List.getElem_mem _))) (fun r hr => ?_)
    subst hr
    refine EvP.pos (by omega) ?_
    exact ih (i + 1) _ (by omega) hst.1 hst.2
theorem toS23 (l : List (S57)) (hs : (l.length ≤ 1048576 ∧ ∀ y ∈ l, small57 y)) : EvP (fun k => laws_toBurnRuleS.f k l) (fun r => r = (l.map conv57)) := by
  have hl := hs.1
  unfold laws_toBurnRuleS.f
  refine EvP.pos (by omega) (EvP.pos (by omega) ?_)
  refine (toL23 l hs l.length 0 _ (by omega) (by simp) (by simp)).imp (fun r hr => ?_)
  rw [hr]
theorem eqL23 (l : List (S42)) (hs : (l.length ≤ 1048576 ∧ ∀ y ∈ l, smalli57 y)) : ∀ (d i : Nat), i + d = l.length → EvP (fun k => laws_eqBurnRuleS.l0 k l l (i : Int)) (fun r => r = true) := by
  have hl := hs.1
  intro d
  induction d with
  | zero =>
    intro i h
    refine EvP.step ?_
    simp only [laws_eqBurnRuleS.l0]
    exact EvP.neg (by omega) (EvP.now rfl)
  | succ d ih =>
    intro i h
    have hi : i < l.length := by omega
    refine EvP.step ?_
    simp only [laws_eqBurnRuleS.l0, wrap_succ hi hl, rdT42 l i hi]
    refine EvP.pos (by omega) (EvP.pos (by omega) (EvP.pos (by omega) ?_))
    refine EvP.bind (eq57 l[i] (hs.2 _ (List.getElem_mem _))) (fun r hr => ?_)
    subst hr
    refine EvP.pos rfl ?_
    exact ih (i + 1) (by omega)
theorem eqS23 (l : List (S42)) (hs : (l.length ≤ 1048576 ∧ ∀ y ∈ l, smalli57 y)) : EvP (fun k => laws_eqBurnRuleS.f k l l) (fun r => r = true) := by
  unfold laws_eqBurnRuleS.f
  simp only [if_true]
  exact eqL23 l hs l.length 0 (by omega)
theorem small_convS23 (l : List (S57)) (hs : (l.length ≤ 1048576 ∧ ∀ y ∈ l, small57 y)) : ((l.map conv57).length ≤ 1048576 ∧ ∀ y ∈ (l.map conv57), smalli57 y) := by
  refine ⟨by rw [List.length_map]; exact hs.1, fun y hy => ?_⟩
  obtain ⟨z, hz, rfl⟩ := List.mem_map.1 hy
  exact small_conv57 z (hs.2 z hz)
/-! loop.example/g00039/laws.Goal -/
def small25 (x : S25) : Prop := x.f0.size ≤ 1048576 ∧ True ∧ True ∧ x.f3.size ≤ 1048576 ∧ x.f4.size ≤ 1048576 ∧ (x.f5.length ≤ 1048576 ∧ ∀ y ∈ x.f5, small53 y) ∧ (x.f6.length ≤ 1048576 ∧ ∀ y ∈ x.f6, small57 y)
def conv25 (x : S25) : S31 := ⟨x.f0, x.f1, x.f2, x.f3, x.f4, (x.f5.map conv53), (x.f6.map conv57)⟩
theorem sz25 (x : S25) (hg : good25 x) (left : Int) (h0 : 0 ≤ left) (h1 : left ≤ 1048576) : EvP (fun k => laws_szGoal.f k x.f0 x.f1 x.f2 x.f3 x.f4 x.f5 x.f6 left) (fun r => r ≤ left ∧ (0 ≤ r → small25 x)) := by
  unfold laws_szGoal.f
  obtain ⟨g0, g1, g2, g3, g4, g5, g6⟩ := hg
  have e0 : wrap64 (left - (x.f0.size : Int)) = left - (x.f0.size : Int) := Evs.w64 (by omega) (by omega)
  simp only [e0]
  refine EvP.ite (fun hc => EvP.now ⟨by omega, fun h => by omega⟩) (fun hc0 => ?_)
  have s0 : x.f0.size ≤ 1048576 := by omega
  have p0 : 0 ≤ left - (x.f0.size : Int) := by omega
  have e3 : wrap64 ((left - (x.f0.size : Int)) - (x.f3.size : Int)) = (left - (x.f0.size : Int)) - (x.f3.size : Int) := Evs.w64 (by omega) (by omega)
  simp only [e3]
  refine EvP.ite (fun hc => EvP.now ⟨by omega, fun h => by omega⟩) (fun hc3 => ?_)
  have s3 : x.f3.size ≤ 1048576 := by omega
  have p3 : 0 ≤ (left - (x.f0.size : Int)) - (x.f3.size : Int) := by omega
  have e4 : wrap64 (((left - (x.f0.size : Int)) - (x.f3.size : Int)) - (x.f4.size : Int)) = ((left - (x.f0.size : Int)) - (x.f3.size : Int)) - (x.f4.size : Int) := Evs.w64 (by omega) (by omega)
  simp only [e4]
  refine EvP.ite (fun hc => EvP.now ⟨by omega, fun h => by omega⟩) (fun hc4 => ?_)
  have s4 : x.f4.size ≤ 1048576 := by omega
  have p4 : 0 ≤ ((left - (x.f0.size : Int)) - (x.f3.size : Int)) - (x.f4.size : Int) := by omega
  refine EvP.bind (szS22 x.f5 g5 (((left - (x.f0.size : Int)) - (x.f3.size : Int)) - (x.f4.size : Int)) (by omega) (by omega)) (fun r5 hr5 => ?_)
  refine EvP.ite (fun hc => EvP.now ⟨by omega, fun h => by omega⟩) (fun hc5 => ?_)
  have s5 := hr5.2 (by omega)
  refine EvP.bind (szS23 x.f6 g6 r5 (by omega) (by omega)) (fun r6 hr6 => ?_)
  refine EvP.ite (fun hc => EvP.now ⟨by omega, fun h => by omega⟩) (fun hc6 => ?_)
  have s6 := hr6.2 (by omega)
  exact EvP.now ⟨by omega, fun _ => ⟨s0, trivial, trivial, s3, s4, s5, s6⟩⟩
theorem to25 (x : S25) (hs : small25 x) : EvP (fun k => laws_toGoal.f k x.f0 x.f1 x.f2 x.f3 x.f4 x.f5 x.f6) (fun r => r = ((conv25 x).f0, (conv25 x).f1, (conv25 x).f2, (conv25 x).f3, (conv25 x).f4, (conv25 x).f5, (conv25 x).f6)) := by
  unfold laws_toGoal.f
  obtain ⟨s0, s1, s2, s3, s4, s5, s6⟩ := hs
  refine EvP.bind (toS22 x.f5 s5) (fun r5 hr5 => ?_)
  subst hr5
  refine EvP.bind (toS23 x.f6 s6) (fun r6 hr6 => ?_)
  subst hr6
  exact EvP.now rfl
def smalli25 (x : S31) : Prop := x.f0.size ≤ 1048576 ∧ True ∧ True ∧ x.f3.size ≤ 1048576 ∧ x.f4.size ≤ 1048576 ∧ (x.f5.length ≤ 1048576 ∧ ∀ y ∈ x.f5, smalli53 y) ∧ (x.f6.length ≤ 1048576 ∧ ∀ y ∈ x.f6, smalli57 y)
theorem eq25 (x : S31) (hs : smalli25 x) : EvP (fun k => laws_eqGoal.f k x.f0 x.f1 x.f2 x.f3 x.f4 x.f5 x.f6 x.f0 x.f1 x.f2 x.f3 x.f4 x.f5 x.f6) (fun r => r = true) := by
  unfold laws_eqGoal.f
  obtain ⟨s0, s1, s2, s3, s4, s5, s6⟩ := hs
  refine EvP.pos rfl ?_
  refine EvP.pos rfl ?_
  refine EvP.pos rfl ?_
  refine EvP.pos rfl ?_
  refine EvP.pos rfl ?_
  refine EvP.bind (eqS22 x.f5 s5) (fun r5 hr5 => ?_)
  subst hr5
  refine EvP.pos rfl ?_
  refine EvP.bind (eqS23 x.f6 s6) (fun r6 hr6 => ?_)
  subst hr6
  refine EvP.pos rfl ?_
  exact EvP.now rfl
theorem small_conv25 (x : S25) (hs : small25 x) : smalli25 (conv25 x) := by
  obtain ⟨s0, s1, s2, s3, s4, s5, s6⟩ := hs
  exact ⟨s0, s1, s2, s3, s4, small_convS22 x.f5 s5, small_convS23 x.f6 s6⟩
end Go.Proofs.Ytjpgflljnljpgaa.BFnExactGoodGoal
