/- What the law's own helpers compute (sizes, copies, comparisons). Written by a program of this repo's (plaingen.py). -/
import Derived.Test.YtkehglgehbfcmaaGFnExactSelfTimes
import Derived.Test.YtkehglgehbfcmaaEv
import Derived.Test.YtkehglgehbfcmaaPFnExactSelfTimesx2
import Derived.Test.YtkehglgehbfcmaaPFnExactSelfTimesx4
import Derived.Test.YtkehglgehbfcmaaPFnExactSelfTimesx5
namespace Go.Proofs.Ytkehglgehbfcmaa.BFnExactSelfTimes
open Go.RowKit Go.Proofs.Ytkehglgehbfcmaa.PFnExactSelfTimes Go.Proofs.YtkehglgehbfcmaaW.PrintWords Go.Proofs.YtkehglgehbfcmaaW.PrintLast Go.Proofs.Ytkehglgehbfcmaa.Opn Go.Proofs.Ytkehglgehbfcmaa.GFnExactSelfTimes Go.Proofs.Ytkehglgehbfcmaa.Evs
set_option linter.unusedVariables false
structure S24 where
  f0 : Int
  f1 : List (S52)
def good24 (x : S24) : Prop := (Lit.int .i64 x.f0).wf = true ∧ GoodL good52 x.f1
structure S30 where
  f0 : Int
  f1 : List (S40)
/-! loop.example/g00039/laws.Call -/
def small52 (x : S52) : Prop := True ∧ True ∧ x.f2.size ≤ 1048576 ∧ x.f3.size ≤ 1048576 ∧ True ∧ True ∧ True
def conv52 (x : S52) : S40 := ⟨x.f0, x.f1, x.f2, x.f3, x.f4, x.f5, x.f6⟩
theorem rdT52 (l : List S52) (i : Nat) (h : i < l.length) : rd_T52 l (i : Int) = l[i] := getD_get _ l i h
theorem rdT40 (l : List S40) (i : Nat) (h : i < l.length) : rd_T40 l (i : Int) = l[i] := getD_get _ l i h
theorem sz52 (x : S52) (hg : good52 x) (left : Int) (h0 : 0 ≤ left) (h1 : left ≤ 1048576) : EvP (fun k => laws_szCall.f x.f0 x.f1 x.f2 x.f3 x.f4 x.f5 x.f6 left) (fun r => r ≤ left ∧ (0 ≤ r → small52 x)) := by
  unfold laws_szCall.f
  obtain ⟨g0, g1, g2, g3, g4, g5, g6⟩ := hg
  have e2 : wrap64 (left - (x.f2.size : Int)) = left - (x.f2.size : Int) := Evs.w64 (by omega) (by omega)
  simp only [e2]
  refine EvP.ite (fun hc => EvP.now ⟨by omega, fun h => by omega⟩) (fun hc2 => ?_)
  have s2 : x.f2.size ≤ 1048576 := by omega
  have p2 : 0 ≤ left - (x.f2.size : Int) := by omega
  have e3 : wrap64 ((left - (x.f2.size : Int)) - (x.f3.size : Int)) = (left - (x.f2.size : Int)) - (x.f3.size : Int) := Evs.w64 (by omega) (by omega)
  simp only [e3]
  refine EvP.ite (fun hc => EvP.now ⟨by omega, fun h => by omega⟩) (fun hc3 => ?_)
  have s3 : x.f3.size ≤ 1048576 := by omega
  have p3 : 0 ≤ (left - (x.f2.size : Int)) - (x.f3.size : Int) := by omega
  exact EvP.now ⟨by omega, fun _ => ⟨trivial, trivial, s2, s3, trivial, trivial, trivial⟩⟩
theorem to52 (x : S52) (hs : small52 x) : EvP (fun k => laws_toCall.f x.f0 x.f1 x.f2 x.f3 x.f4 x.f5 x.f6) (fun r => r = ((conv52 x).f0, (conv52 x).f1, (conv52 x).f2, (conv52 x).f3, (conv52 x).f4, (conv52 x).f5, (conv52 x).f6)) := by
  unfold laws_toCall.f
  obtain ⟨s0, s1, s2, s3, s4, s5, s6⟩ := hs
  exact EvP.now rfl
def smalli52 (x : S40) : Prop := True ∧ True ∧ x.f2.size ≤ 1048576 ∧ x.f3.size ≤ 1048576 ∧ True ∧ True ∧ True
theorem eq52 (x : S40) (hs : smalli52 x) : EvP (fun k => laws_eqCall.f x.f0 x.f1 x.f2 x.f3 x.f4 x.f5 x.f6 x.f0 x.f1 x.f2 x.f3 x.f4 x.f5 x.f6) (fun r => r = true) := by
  unfold laws_eqCall.f
  obtain ⟨s0, s1, s2, s3, s4, s5, s6⟩ := hs
  refine EvP.pos rfl ?_
  refine EvP.pos rfl ?_
  refine EvP.pos rfl ?_
  refine EvP.pos rfl ?_
  refine EvP.pos rfl ?_
  refine EvP.pos rfl ?_
  first | refine EvP.neg (by simp) ?_ | refine EvP.pos (by simp) ?_
  exact EvP.now rfl
theorem small_conv52 (x : S52) (hs : small52 x) : smalli52 (conv52 x) := by
  obtain ⟨s0, s1, s2, s3, s4, s5, s6⟩ := hs
  exact ⟨s0, s1, s2, s3, s4, s5, s6⟩
/-! lists of loop.example/g00039/laws.Call -/
theorem szL22 (l : List (S52)) (hg : GoodL good52 l) : ∀ (d i : Nat) (left : Int), i + d = l.length → l.length ≤ 1048576 → 0 ≤ left → left ≤ 1048576 → (∀ j y, j < i → l[j]? = some y → small52 y) →
    EvP (fun k => laws_szCallS.l0 k l left (i : Int)) (fun r => r ≤ left ∧ (0 ≤ r → ∀ y ∈ l, small52 y)) := by
  intro d
  induction d with
  | zero =>
    intro i left h hl h0 h1 hd
    refine EvP.step ?_
    simp only [laws_szCallS.l0]
    refine EvP.neg (by omega) (EvP.now ⟨Int.le_refl _, fun _ y hy => ?_⟩)
    obtain ⟨j, hj⟩ := List.getElem?_of_mem hy
    exact hd j y (by have := (List.getElem?_eq_some_iff.1 hj).1; omega) hj
  | succ d ih =>
    intro i left h hl h0 h1 hd
    have hi : i < l.length := by omega
    refine EvP.step ?_
    simp only [laws_szCallS.l0, wrap_succ hi hl, rdT52 l i hi]
    refine EvP.pos (by omega) (EvP.pos (by omega) ?_)
    refine EvP.bind (sz52 l[i] (hg.2 _ (List.getElem_mem _)) left h0 h1) (fun r hr => ?_)
    refine EvP.ite (fun hc => EvP.now ⟨by omega, fun h => by omega⟩) (fun hc => ?_)
    refine (ih (i + 1) r (by omega) hl (by omega) (by omega) (fun j y hj hy => ?_)).imp (fun q hq => ⟨by omega, hq.2⟩)
    · by_cases hji : j = i
      · subst hji
        rw [List.getElem?_eq_getElem hi] at hy
        obtain rfl := Option.some.inj hy
        exact hr.2 (by omega)
      · exact hd j y (by omega) hy
theorem szS22 (l : List (S52)) (hg : GoodL good52 l) (left : Int) (h0 : 0 ≤ left) (h1 : left ≤ 1048576) : EvP (fun k => laws_szCallS.f k l left) (fun r => r ≤ left ∧ (0 ≤ r → (l.length ≤ 1048576 ∧ ∀ y ∈ l, small52 y))) := by
  have hl := hg.1
  unfold laws_szCallS.f
  have e : wrap64 (left - (l.length : Int)) = left - (l.length : Int) := Evs.w64 (by omega) (by omega)
  simp only [e]
  refine EvP.ite (fun hc => EvP.now ⟨by omega, fun h => by omega⟩) (fun hc => ?_)
  exact (szL22 l hg l.length 0 _ (by omega) (by omega) (by omega) (by omega) (fun j y hj _ => by omega)).imp (fun r hr => ⟨by omega, fun h => ⟨by omega, hr.2 h⟩⟩)
theorem toL22 (l : List (S52)) (hs : (l.length ≤ 1048576 ∧ ∀ y ∈ l, small52 y)) : ∀ (d i : Nat) (acc : List (S40)), i + d = l.length → acc.length = l.length → acc.take i = (l.take i).map conv52 → EvP (fun k => laws_toCallS.l0 k l acc (i : Int)) (fun r => r = l.map conv52) := by
  have hl := hs.1
  intro d
  induction d with
  | zero =>
    intro i acc h ha ht
    refine EvP.step ?_
    simp only [laws_toCallS.l0]
    refine EvP.neg (by omega) (EvP.now ?_)
    obtain rfl : i = l.length := by omega
    exact take_all l _ acc ha ht
  | succ d ih =>
    intro i acc h ha ht
    have hi : i < l.length := by omega
    have hst := take_conv l conv52 acc i hi ha ht
    refine EvP.step ?_
    simp only [laws_toCallS.l0, wrap_succ hi hl, rdT52 l i hi, Int.toNat_natCast]
    refine EvP.pos (by omega) (EvP.pos (by omega) ?_)
    refine EvP.bind (to52 l[i] (hs.2 _ (List.getElem_mem _))) (fun r hr => ?_)
    subst hr
    refine EvP.pos (by omega) ?_
    exact ih (i + 1) _ (by omega) hst.1 hst.2
theorem toS22 (l : List (S52)) (hs : (l.length ≤ 1048576 ∧ ∀ y ∈ l, small52 y)) : EvP (fun k => laws_toCallS.f k l) (fun r => r = (l.map conv52)) := by
  have hl := hs.1
  unfold laws_toCallS.f
  refine EvP.pos (by omega) (EvP.pos (by omega) ?_)
  refine (toL22 l hs l.length 0 _ (by omega) (by simp) (by simp)).imp (fun r hr => ?_)
  rw [hr]
theorem eqL22 (l : List (S40)) (hs : (l.length ≤ 1048576 ∧ ∀ y ∈ l, smalli52 y)) : ∀ (d i : Nat), i + d = l.length → EvP (fun k => laws_eqCallS.l0 k l l (i : Int)) (fun r => r = true) := by
  have hl := hs.1
  intro d
  induction d with
  | zero =>
    intro i h
    refine EvP.step ?_
    simp only [laws_eqCallS.l0]
    exact EvP.neg (by omega) (EvP.now rfl)
  | succ d ih =>
    intro i h
    have hi : i < l.length := by omega
    refine EvP.step ?_
    simp only [laws_eqCallS.l0, wrap_succ hi hl, rdT40 l i hi]
    refine EvP.pos (by omega) (EvP.pos (by omega) (EvP.pos (by omega) ?_))
    refine EvP.bind (eq52 l[i] (hs.2 _ (List.getElem_mem _))) (fun r hr => ?_)
    subst hr
    refine EvP.pos rfl ?_
    exact ih (i + 1) (by omega)
theorem eqS22 (l : List (S40)) (hs : (l.length ≤ 1048576 ∧ ∀ y ∈ l, smalli52 y)) : EvP (fun k => laws_eqCallS.f k l l) (fun r => r = true) := by
  unfold laws_eqCallS.f
  simp only [if_true]
  exact eqL22 l hs l.length 0 (by omega)
theorem small_convS22 (l : List (S52)) (hs : (l.length ≤ 1048576 ∧ ∀ y ∈ l, small52 y)) : ((l.map conv52).length ≤ 1048576 ∧ ∀ y ∈ (l.map conv52), smalli52 y) := by
  refine ⟨by rw [List.length_map]; exact hs.1, fun y hy => ?_⟩
  obtain ⟨z, hz, rfl⟩ := List.mem_map.1 hy
  exact small_conv52 z (hs.2 z hz)
/-! loop.example/g00039/laws.Trace -/
def small24 (x : S24) : Prop := True ∧ (x.f1.length ≤ 1048576 ∧ ∀ y ∈ x.f1, small52 y)
def conv24 (x : S24) : S30 := ⟨x.f0, (x.f1.map conv52)⟩
theorem sz24 (x : S24) (hg : good24 x) (left : Int) (h0 : 0 ≤ left) (h1 : left ≤ 1048576) : EvP (fun k => laws_szTrace.f k x.f0 x.f1 left) (fun r => r ≤ left ∧ (0 ≤ r → small24 x)) := by
  unfold laws_szTrace.f
  obtain ⟨g0, g1⟩ := hg
  refine EvP.bind (szS22 x.f1 g1 left (by omega) (by omega)) (fun r1 hr1 => ?_)
  refine EvP.ite (fun hc => EvP.now ⟨by omega, fun h => by omega⟩) (fun hc1 => ?_)
  have s1 := hr1.2 (by omega)
  exact EvP.now ⟨by omega, fun _ => ⟨trivial, s1⟩⟩
theorem to24 (x : S24) (hs : small24 x) : EvP (fun k => laws_toTrace.f k x.f0 x.f1) (fun r => r = ((conv24 x).f0, (conv24 x).f1)) := by
  unfold laws_toTrace.f
  obtain ⟨s0, s1⟩ := hs
  refine EvP.bind (toS22 x.f1 s1) (fun r1 hr1 => ?_)
  subst hr1
  exact EvP.now rfl
def smalli24 (x : S30) : Prop := True ∧ (x.f1.length ≤ 1048576 ∧ ∀ y ∈ x.f1, smalli52 y)
theorem eq24 (x : S30) (hs : smalli24 x) : EvP (fun k => laws_eqTrace.f k x.f0 x.f1 x.f0 x.f1) (fun r => r = true) := by
  unfold laws_eqTrace.f
  obtain ⟨s0, s1⟩ := hs
  refine EvP.pos rfl ?_
  refine EvP.bind (eqS22 x.f1 s1) (fun r1 hr1 => ?_)
  subst hr1
  refine EvP.pos rfl ?_
  exact EvP.now rfl
theorem small_conv24 (x : S24) (hs : small24 x) : smalli24 (conv24 x) := by
  obtain ⟨s0, s1⟩ := hs
  exact ⟨s0, small_convS22 x.f1 s1⟩
end Go.Proofs.Ytkehglgehbfcmaa.BFnExactSelfTimes
