/- What the law's own helpers compute (sizes, copies, comparisons). Written by a program of this repo's (plaingen.py). -/
import Derived.Test.YthcamcmjafhehaaDoorGFnExactKeepTraces
import Derived.Test.YthcamcmjafhehaaDoorEv
import Derived.Test.YthcamcmjafhehaaDoorPFnExactKeepTracesx3
import Derived.Test.YthcamcmjafhehaaDoorPFnExactKeepTracesx5
import Derived.Test.YthcamcmjafhehaaDoorPFnExactKeepTracesx6
import Derived.Test.YthcamcmjafhehaaDoorPFnExactKeepTracesx7
namespace Go.Proofs.YthcamcmjafhehaaDoor.BFnExactKeepTraces
open Go.RowKit Go.Proofs.YthcamcmjafhehaaDoor.PFnExactKeepTraces Go.Proofs.YthcamcmjafhehaaDoorW.PrintWords Go.Proofs.YthcamcmjafhehaaDoorW.PrintLast Go.Proofs.YthcamcmjafhehaaDoor.Opn Go.Proofs.YthcamcmjafhehaaDoor.GFnExactKeepTraces Go.Proofs.YthcamcmjafhehaaDoor.Evs
set_option linter.unusedVariables false
/-! loop.example/g00039/laws.Policy -/
def small41 (x : S41) : Prop := True ∧ True ∧ x.f2.size ≤ 1048576
def conv41 (x : S41) : S52 := ⟨x.f0, x.f1, x.f2⟩
theorem rdT41 (l : List S41) (i : Nat) (h : i < l.length) : rd_T41 l (i : Int) = l[i] := getD_get _ l i h
theorem rdT52 (l : List S52) (i : Nat) (h : i < l.length) : rd_T52 l (i : Int) = l[i] := getD_get _ l i h
theorem sz41 (x : S41) (hg : good41 x) (left : Int) (h0 : 0 ≤ left) (h1 : left ≤ 1048576) : EvP (fun k => laws_szPolicy.f x.f0 x.f1 x.f2 left) (fun r => r ≤ left ∧ (0 ≤ r → small41 x)) := by
  unfold laws_szPolicy.f
  obtain ⟨g0, g1, g2⟩ := hg
  have e2 : wrap64 (left - (x.f2.size : Int)) = left - (x.f2.size : Int) := Evs.w64 (by omega) (by omega)
  simp only [e2]
  refine EvP.ite (fun hc => EvP.now ⟨by omega, fun h => by omega⟩) (fun hc2 => ?_)
  have s2 : x.f2.size ≤ 1048576 := by omega
  have p2 : 0 ≤ left - (x.f2.size : Int) := by omega
  exact EvP.now ⟨by omega, fun _ => ⟨trivial, trivial, s2⟩⟩
theorem to41 (x : S41) (hs : small41 x) : EvP (fun k => laws_toPolicy.f x.f0 x.f1 x.f2) (fun r => r = ((conv41 x).f0, (conv41 x).f1, (conv41 x).f2)) := by
  unfold laws_toPolicy.f
  obtain ⟨s0, s1, s2⟩ := hs
  exact EvP.now rfl
def smalli41 (x : S52) : Prop := True ∧ True ∧ x.f2.size ≤ 1048576
theorem eq41 (x : S52) (hs : smalli41 x) : EvP (fun k => laws_eqPolicy.f x.f0 x.f1 x.f2 x.f0 x.f1 x.f2) (fun r => r = true) := by
  unfold laws_eqPolicy.f
  obtain ⟨s0, s1, s2⟩ := hs
  refine EvP.pos rfl ?_
  refine EvP.pos rfl ?_
  refine EvP.pos rfl ?_
  exact EvP.now rfl
theorem small_conv41 (x : S41) (hs : small41 x) : smalli41 (conv41 x) := by
  obtain ⟨s0, s1, s2⟩ := hs
  exact ⟨s0, s1, s2⟩
/-! lists of loop.example/g00039/laws.Policy -/
theorem szL22 (l : List (S41)) (hg : GoodL good41 l) : ∀ (d i : Nat) (left : Int), i + d = l.length → l.length ≤ 1048576 → 0 ≤ left → left ≤ 1048576 → (∀ j y, j < i → l[j]? = some y → small41 y) →
    EvP (fun k => laws_szPolicyS.l0 k l left (i : Int)) (fun r => r ≤ left ∧ (0 ≤ r → ∀ y ∈ l, small41 y)) := by
  intro d
  induction d with
  | zero =>
    intro i left h hl h0 h1 hd
    refine EvP.step ?_
    simp only [laws_szPolicyS.l0]
    refine EvP.neg (by omega) (EvP.now ⟨Int.le_refl _, fun _ y hy => ?_⟩)
    obtain ⟨j, hj⟩ := List.getElem?_of_mem hy
    exact hd j y (by have := (List.getElem?_eq_some_iff.1 hj).1; omega) hj
  | succ d ih =>
    intro i left h hl h0 h1 hd
    have hi : i < l.length := by omega
    refine EvP.step ?_
    simp only [laws_szPolicyS.l0, wrap_succ hi hl, rdT41 l i hi]
    refine EvP.pos (by omega) (EvP.pos (by omega) ?_)
    refine EvP.bind (sz41 l[i] (hg.2 _ (List.getElem_mem _)) left h0 h1) (fun r hr => ?_)
    refine EvP.ite (fun hc => EvP.now ⟨by omega, fun h => by omega⟩) (fun hc => ?_)
    refine (ih (i + 1) r (by omega) hl (by omega) (by omega) (fun j y hj hy => ?_)).imp (fun q hq => ⟨by omega, hq.2⟩)
    · by_cases hji : j = i
      · subst hji
        rw [List.getElem?_eq_getElem hi] at hy
        obtain rfl := Option.some.inj hy
        exact hr.2 (by omega)
      · exact hd j y (by omega) hy
theorem szS22 (l : List (S41)) (hg : GoodL good41 l) (left : Int) (h0 : 0 ≤ left) (h1 : left ≤ 1048576) : EvP (fun k => laws_szPolicyS.f k l left) (fun r => r ≤ left ∧ (0 ≤ r → (l.length ≤ 1048576 ∧ ∀ y ∈ l, small41 y))) := by
  have hl := hg.1
  unfold laws_szPolicyS.f
  have e : wrap64 (left - (l.length : Int)) = left - (l.length : Int) := Evs.w64 (by omega) (by omega)
  simp only [e]
  refine EvP.ite (fun hc => EvP.now ⟨by omega, fun h => by omega⟩) (fun hc => ?_)
  exact (szL22 l hg l.length 0 _ (by omega) (by omega) (by omega) (by omega) (fun j y hj _ => by omega)).imp (fun r hr => ⟨by omega, fun h => ⟨by omega, hr.2 h⟩⟩)
theorem toL22 (l : List (S41)) (hs : (l.length ≤ 1048576 ∧ ∀ y ∈ l, small41 y)) : ∀ (d i : Nat) (acc : List (S52)), i + d = l.length → acc.length = l.length → acc.take i = (l.take i).map conv41 → EvP (fun k => laws_toPolicyS.l0 k l acc (i : Int)) (fun r => r = l.map conv41) := by
  have hl := hs.1
  intro d
  induction d with
  | zero =>
    intro i acc h ha ht
    refine EvP.step ?_
    simp only [laws_toPolicyS.l0]
    refine EvP.neg (by omega) (EvP.now ?_)
    obtain rfl : i = l.length := by omega
    exact take_all l _ acc ha ht
  | succ d ih =>
    intro i acc h ha ht
    have hi : i < l.length := by omega
    have hst := take_conv l conv41 acc i hi ha ht
    refine EvP.step ?_
    simp only [laws_toPolicyS.l0, wrap_succ hi hl, rdT41 l i hi, Int.toNat_natCast]
    refine EvP.pos (by omega) (EvP.pos (by omega) ?_)
    refine EvP.bind (to41 l[i] (hs.2 _ (List.getElem_mem _))) (fun r hr => ?_)
    subst hr
    refine EvP.pos (by omega) ?_
    exact ih (i + 1) _ (by omega) hst.1 hst.2
theorem toS22 (l : List (S41)) (hs : (l.length ≤ 1048576 ∧ ∀ y ∈ l, small41 y)) : EvP (fun k => laws_toPolicyS.f k l) (fun r => r = (l.map conv41)) := by
  have hl := hs.1
  unfold laws_toPolicyS.f
  refine EvP.pos (by omega) (EvP.pos (by omega) ?_)
  refine (toL22 l hs l.length 0 _ (by omega) (by simp) (by simp)).imp (fun r hr => ?_)
  rw [hr]
theorem eqL22 (l : List (S52)) (hs : (l.length ≤ 1048576 ∧ ∀ y ∈ l, smalli41 y)) : ∀ (d i : Nat), i + d = l.length → EvP (fun k => laws_eqPolicyS.l0 k l l (i : Int)) (fun r => r = true) := by
  have hl := hs.1
  intro d
  induction d with
  | zero =>
    intro i h
    refine EvP.step ?_
    simp only [laws_eqPolicyS.l0]
    exact EvP.neg (by omega) (EvP.now rfl)
  | succ d ih =>
    intro i h
    have hi : i < l.length := by omega
    refine EvP.step ?_
    simp only [laws_eqPolicyS.l0, wrap_succ hi hl, rdT52 l i hi]
    refine EvP.pos (by omega) (EvP.pos (by omega) (EvP.pos (by omega) ?_))
    refine EvP.bind (eq41 l[i] (hs.2 _ (List.getElem_mem _))) (fun r hr => ?_)
    subst hr
    refine EvP.pos rfl ?_
    exact ih (i + 1) (by omega)
theorem eqS22 (l : List (S52)) (hs : (l.length ≤ 1048576 ∧ ∀ y ∈ l, smalli41 y)) : EvP (fun k => laws_eqPolicyS.f k l l) (fun r => r = true) := by
  unfold laws_eqPolicyS.f
  simp only [if_true]
  exact eqL22 l hs l.length 0 (by omega)
theorem small_convS22 (l : List (S41)) (hs : (l.length ≤ 1048576 ∧ ∀ y ∈ l, small41 y)) : ((l.map conv41).length ≤ 1048576 ∧ ∀ y ∈ (l.map conv41), smalli41 y) := by
  refine ⟨by rw [List.length_map]; exact hs.1, fun y hy => ?_⟩
  obtain ⟨z, hz, rfl⟩ := List.mem_map.1 hy
  exact small_conv41 z (hs.2 z hz)
/-! loop.example/g00039/laws.Call -/
def small82 (x : S82) : Prop := True ∧ True ∧ x.f2.size ≤ 1048576 ∧ x.f3.size ≤ 1048576 ∧ True ∧ True ∧ True
def conv82 (x : S82) : S60 := ⟨x.f0, x.f1, x.f2, x.f3, x.f4, x.f5, x.f6⟩
theorem rdT82 (l : List S82) (i : Nat) (h : i < l.length) : rd_T82 l (i : Int) = l[i] := getD_get _ l i h
theorem rdT60 (l : List S60) (i : Nat) (h : i < l.length) : rd_T60 l (i : Int) = l[i] := getD_get _ l i h
theorem sz82 (x : S82) (hg : good82 x) (left : Int) (h0 : 0 ≤ left) (h1 : left ≤ 1048576) : EvP (fun k => laws_szCall.f x.f0 x.f1 x.f2 x.f3 x.f4 x.f5 x.f6 left) (fun r => r ≤ left ∧ (0 ≤ r → small82 x)) := by
  unfold laws_szCall.f
  obtain ⟨g0, g1, g2, g3, g4, g5, g6⟩ := hg
  have e2 : wrap64 (left - (x.f2.size : Int)) = left - (x.f2.size : Int) := Evs.w64 (by omega) (by omega)
  simp only [e2]
  refine EvP.ite (fun hc => EvP.now ⟨by omega, fun h => by omega⟩) (fun hc2 => ?_)
  have s2 : x.f2.size ≤ 1048576 := by omega
  have p2 : 0 ≤ left - (x.f2.size : Int) := by omega
  have e3 : wrap64 ((left - (x.f2.size : Int)) - (x.f3.size : Int)) = (left - (x.f2.size : Int)) - (x.f3.size : Int) := Evs.w64 (by omega) (by omega)
  simp only [e3]
  refine EvP.ite (fun hc => EvP.now ⟨by omega, fun h => by omega⟩) (fun hc3 => ?_)
  have s3 : x.f3.size ≤ 1048576 := by omega
  have p3 : 0 ≤ (left - (x.f2.size : Int)) - (x.f3.size : Int) := by omega
  exact EvP.now ⟨by omega, fun _ => ⟨trivial, trivial, s2, s3, trivial, trivial, trivial⟩⟩
theorem to82 (x : S82) (hs : small82 x) : EvP (fun k => laws_toCall.f x.f0 x.f1 x.f2 x.f3 x.f4 x.f5 x.f6) (fun r => r = ((conv82 x).f0, (conv82 x).f1, (conv82 x).f2, (conv82 x).f3, (conv82 x).f4, (conv82 x).f5, (conv82 x).f6)) := by
  unfold laws_toCall.f
  obtain ⟨s0, s1, s2, s3, s4, s5, s6⟩ := hs
  exact EvP.now rfl
def smalli82 (x : S60) : Prop := True ∧ True ∧ x.f2.size ≤ 1048576 ∧ x.f3.size ≤ 1048576 ∧ True ∧ True ∧ True
theorem eq82 (x : S60) (hs : smalli82 x) : EvP (fun k => laws_eqCall.f x.f0 x.f1 x.f2 x.f3 x.f4 x.f5 x.f6 x.f0 x.f1 x.f2 x.f3 x.f4 x.f5 x.f6) (fun r => r = true) := by
  unfold laws_eqCall.f
  obtain ⟨s0, s1, s2, s3, s4, s5, s6⟩ := hs
  refine EvP.pos rfl ?_
  refine EvP.pos rfl ?_
  refine EvP.pos rfl ?_
  refine EvP.pos rfl ?_
  refine EvP.pos rfl ?_
  refine EvP.pos rfl ?_
  first | refine EvP.neg (by simp) ?_ | refine EvP.pos (by simp) ?_
  exact EvP.now rfl
theorem small_conv82 (x : S82) (hs : small82 x) : smalli82 (conv82 x) := by
  obtain ⟨s0, s1, s2, s3, s4, s5, s6⟩ := hs
  exact ⟨s0, s1, s2, s3, s4, s5, s6⟩
/-! lists of loop.example/g00039/laws.Call -/
theorem szL43 (l : List (S82)) (hg : GoodL good82 l) : ∀ (d i : Nat) (left : Int), i + d = l.length → l.length ≤ 1048576 → 0 ≤ left → left ≤ 1048576 → (∀ j y, j < i → l[j]? = some y → small82 y) →
    EvP (fun k => laws_szCallS.l0 k l left (i : Int)) (fun r => r ≤ left ∧ (0 ≤ r → ∀ y ∈ l, small82 y)) := by
  intro d
  induction d with
  | zero =>
    intro i left h hl h0 h1 hd
    refine EvP.step ?_
    simp only [laws_szCallS.l0]
    refine EvP.neg (by omega) (EvP.now ⟨Int.le_refl _, fun _ y hy => ?_⟩)
    obtain ⟨j, hj⟩ := List.getElem?_of_mem hy
    exact hd j y (by have := (List.getElem?_eq_some_iff.1 hj).1; omega) hj
  | succ d ih =>
    intro i left h hl h0 h1 hd
    have hi : i < l.length := by omega
    refine EvP.step ?_
    simp only [laws_szCallS.l0, wrap_succ hi hl, rdT82 l i hi]
    refine EvP.pos (by omega) (EvP.pos (by omega) ?_)
    refine EvP.bind (sz82 l[i] (hg.2 _ (List.getElem_mem _)) left h0 h1) (fun r hr => ?_)
    refine EvP.ite (fun hc => EvP.now ⟨by omega, fun h => by omega⟩) (fun hc => ?_)
    refine (ih (i + 1) r (by omega) hl (by omega) (by omega) (fun j y hj hy => ?_)).imp (fun q hq => ⟨by omega, hq.2⟩)
    · by_cases hji : j = i
      · subst hji
        rw [List.getElem?_eq_getElem hi] at hy
        obtain rfl := Option.some.inj hy
        exact hr.2 (by omega)
      · exact hd j y (by omega) hy
theorem szS43 (l : List (S82)) (hg : GoodL good82 l) (left : Int) (h0 : 0 ≤ left) (h1 : left ≤ 1048576) : EvP (fun k => laws_szCallS.f k l left) (fun r => r ≤ left ∧ (0 ≤ r → (l.length ≤ 1048576 ∧ ∀ y ∈ l, small82 y))) := by
  have hl := hg.1
  unfold laws_szCallS.f
  have e : wrap64 (left - (l.length : Int)) = left - (l.length : Int) := Evs.w64 (by omega) (by omega)
  simp only [e]
  refine EvP.ite (fun hc => EvP.now ⟨by omega, fun h => by omega⟩) (fun hc => ?_)
  exact (szL43 l hg l.length 0 _ (by omega) (by omega) (by omega) (by omega) (fun j y hj _ => by omega)).imp (fun r hr => ⟨by omega, fun h => ⟨by omega, hr.2 h⟩⟩)
theorem toL43 (l : List (S82)) (hs : (l.length ≤ 1048576 ∧ ∀ y ∈ l, small82 y)) : ∀ (d i : Nat) (acc : List (S60)), i + d = l.length → acc.length = l.length → acc.take i = (l.take i).map conv82 → EvP (fun k => laws_toCallS.l0 k l acc (i : Int)) (fun r => r = l.map conv82) := by
  have hl := hs.1
  intro d
  induction d with
  | zero =>
    intro i acc h ha ht
    refine EvP.step ?_
    simp only [laws_toCallS.l0]
    refine EvP.neg (by omega) (EvP.now ?_)
    obtain rfl : i = l.length := by omega
    exact take_all l _ acc ha ht
  | succ d ih =>
    intro i acc h ha ht
    have hi : i < l.length := by omega
    have hst := take_conv l conv82 acc i hi ha ht
    refine EvP.step ?_
    simp only [laws_toCallS.l0, wrap_succ hi hl, rdT82 l i hi, Int.toNat_natCast]
    refine EvP.pos (by omega) (EvP.pos (by omega) ?_)
    refine EvP.bind (to82 l[i] (hs.2 _ (List.getElem_mem _))) (fun r hr => ?_)
    subst hr
    refine EvP.pos (by omega) ?_
    exact ih (i + 1) _ (by omega) hst.1 hst.2
theorem toS43 (l : List (S82)) (hs : (l.length ≤ 1048576 ∧ ∀ y ∈ l, small82 y)) : EvP (fun k => laws_toCallS.f k l) (fun r => r = (l.map conv82)) := by
  have hl := hs.1
  unfold laws_toCallS.f
  refine EvP.pos (by omega) (EvP.pos (by omega) ?_)
  refine (toL43 l hs l.length 0 _ (by omega) (by simp) (by simp)).imp (fun r hr => ?_)
  rw [hr]
theorem eqL43 (l : List (S60)) (hs : (l.length ≤ 1048576 ∧ ∀ y ∈ l, smalli82 y)) : ∀ (d i : Nat), i + d = l.length → EvP (fun k => laws_eqCallS.l0 k l l (i : Int)) (fun r => r = true) := by
  have hl := hs.1
  intro d
  induction d with
  | zero =>
    intro i h
    refine EvP.step ?_
    simp only [laws_eqCallS.l0]
    exact EvP.neg (by omega) (EvP.now rfl)
  | succ d ih =>
    intro i h
    have hi : i < l.length := by omega
    refine EvP.step ?_
    simp only [laws_eqCallS.l0, wrap_succ hi hl, rdT60 l i hi]
    refine EvP.pos (by omega) (EvP.pos (by omega) (EvP.pos (by omega) ?_))
    refine EvP.bind (eq82 l[i] (hs.2 _ (List.getElem_mem _))) (fun r hr => ?_)
    subst hr
    refine EvP.pos rfl ?_
    exact ih (i + 1) (by omega)
theorem eqS43 (l : List (S60)) (hs : (l.length ≤ 1048576 ∧ ∀ y ∈ l, smalli82 y)) : EvP (fun k => laws_eqCallS.f k l l) (fun r => r = true) := by
  unfold laws_eqCallS.f
  simp only [if_true]
  exact eqL43 l hs l.length 0 (by omega)
theorem small_convS43 (l : List (S82)) (hs : (l.length ≤ 1048576 ∧ ∀ y ∈ l, small82 y)) : ((l.map conv82).length ≤ 1048576 ∧ ∀ y ∈ (l.map conv82), smalli82 y) := by
  refine ⟨by rw [List.length_map]; exact hs.1, fun y hy => ?_⟩
  obtain ⟨z, hz, rfl⟩ := List.mem_map.1 hy
  exact small_conv82 z (hs.2 z hz)
/-! loop.example/g00039/laws.Trace -/
def small45 (x : S45) : Prop := True ∧ (x.f1.length ≤ 1048576 ∧ ∀ y ∈ x.f1, small82 y)
def conv45 (x : S45) : S51 := ⟨x.f0, (x.f1.map conv82)⟩
theorem rdT45 (l : List S45) (i : Nat) (h : i < l.length) : rd_T45 l (i : Int) = l[i] := getD_get _ l i h
theorem rdT51 (l : List S51) (i : Nat) (h : i < l.length) : rd_T51 l (i : Int) = l[i] := getD_get _ l i h
theorem sz45 (x : S45) (hg : good45 x) (left : Int) (h0 : 0 ≤ left) (h1 : left ≤ 1048576) : EvP (fun k => laws_szTrace.f k x.f0 x.f1 left) (fun r => r ≤ left ∧ (0 ≤ r → small45 x)) := by
  unfold laws_szTrace.f
  obtain ⟨g0, g1⟩ := hg
  refine EvP.bind (szS43 x.f1 g1 left (by omega) (by omega)) (fun r1 hr1 => ?_)
  refine EvP.ite (fun hc => EvP.now ⟨by omega, fun h => by omega⟩) (fun hc1 => ?_)
  have s1 := hr1.2 (by omega)
  exact EvP.now ⟨by omega, fun _ => ⟨trivial, s1⟩⟩
theorem to45 (x : S45) (hs : small45 x) : EvP (fun k => laws_toTrace.f k x.f0 x.f1) (fun r => r = ((conv45 x).f0, (conv45 x).f1)) := by
  unfold laws_toTrace.f
  obtain ⟨s0, s1⟩ := hs
  refine EvP.bind (toS43 x.f1 s1) (fun r1 hr1 => ?_)
  subst hr1
  exact EvP.now rfl
def smalli45 (x : S51) : Prop := True ∧ (x.f1.length ≤ 1048576 ∧ ∀ y ∈ x.f1, smalli82 y)
theorem eq45 (x : S51) (hs : smalli45 x) : EvP (fun k => laws_eqTrace.f k x.f0 x.f1 x.f0 x.f1) (fun r => r = true) := by
  unfold laws_eqTrace.f
  obtain ⟨s0, s1⟩ := hs
  refine EvP.pos rfl ?_
  refine EvP.bind (eqS43 x.f1 s1) (fun r1 hr1 => ?_)
  subst hr1
  refine EvP.pos rfl ?_
  exact EvP.now rfl
theorem small_conv45 (x : S45) (hs : small45 x) : smalli45 (conv45 x) := by
  obtain ⟨s0, s1⟩ := hs
  exact ⟨s0, small_convS43 x.f1 s1⟩
/-! lists of loop.example/g00039/laws.Trace -/
theorem szL23 (l : List (S45)) (hg : GoodL good45 l) : ∀ (d i : Nat) (left : Int), i + d = l.length → l.length ≤ 1048576 → 0 ≤ left → left ≤ 1048576 → (∀ j y, j < i → l[j]? = some y → small45 y) →
    EvP (fun k => laws_szTraceS.l0 k l left (i : Int)) (fun r => r ≤ left ∧ (0 ≤ r → ∀ y ∈ l, small45 y)) := by
  intro d
  induction d with
  | zero =>
    intro i left h hl h0 h1 hd
    refine EvP.step ?_
    simp only [laws_szTraceS.l0]
    refine EvP.neg (by omega) (EvP.now ⟨Int.le_refl _, fun _ y hy => ?_⟩)
    obtain ⟨j, hj⟩ := List.getElem?_of_mem hy
    exact hd j y (by have := (List.getElem?_eq_some_iff.1 hj).1; omega) hj
  | succ d ih =>
    intro i left h hl h0 h1 hd
    have hi : i < l.length := by omega
    refine EvP.step ?_
    simp only [laws_szTraceS.l0, wrap_succ hi hl, rdT45 l i hi]
    refine EvP.pos (by omega) (EvP.pos (by omega) ?_)
    refine EvP.bind (sz45 l[i] (hg.2 _ (List.getElem_mem _)) left h0 h1) (fun r hr => ?_)
    refine EvP.ite (fun hc => EvP.now ⟨by omega, fun h => by omega⟩) (fun hc => ?_)
    refine (ih (i + 1) r (by omega) hl (by omega) (by omega) (fun j y hj hy => ?_)).imp (fun q hq => ⟨by omega, hq.2⟩)
    · by_cases hji : j = i
      · subst hji
        rw [List.getElem?_eq_getElem hi] at hy
        obtain rfl := Option.some.inj hy
        exact hr.2 (by omega)
      · exact hd j y (by omega) hy
theorem szS23 (l : List (S45)) (hg : GoodL good45 l) (left : Int) (h0 : 0 ≤ left) (h1 : left ≤ 1048576) : EvP (fun k => laws_szTraceS.f k l left) (fun r => r ≤ left ∧ (0 ≤ r → (l.length ≤ 1048576 ∧ ∀ y ∈ l, small45 y))) := by
  have hl := hg.1
  unfold laws_szTraceS.f
  have e : wrap64 (left - (l.length : Int)) = left - (l.length : Int) := Evs.w64 (by omega) (by omega)
  simp only [e]
  refine EvP.ite (fun hc => EvP.now ⟨by omega, fun h => by omega⟩) (fun hc => ?_)
  exact (szL23 l hg l.length 0 _ (by omega) (by omega) (by omega) (by omega) (fun j y hj _ => by omega)).imp (fun r hr => ⟨by omega, fun h => ⟨by omega, hr.2 h⟩⟩)
theorem toL23 (l : List (S45)) (hs : (l.length ≤ 1048576 ∧ ∀ y ∈ l, small45 y)) : ∀ (d i : Nat) (acc : List (S51)), i + d = l.length → acc.length = l.length → acc.take i = (l.take i).map conv45 → EvP (fun k => laws_toTraceS.l0 k l acc (i : Int)) (fun r => r = l.map conv45) := by
  have hl := hs.1
  intro d
  induction d with
  | zero =>
    intro i acc h ha ht
    refine EvP.step ?_
    simp only [laws_toTraceS.l0]
    refine EvP.neg (by omega) (EvP.now ?_)
    obtain rfl : i = l.length := by omega
    exact take_all l _ acc ha ht
  | succ d ih =>
    intro i acc h ha ht
    have hi : i < l.length := by omega
    have hst := take_conv l conv45 acc i hi ha ht
    refine EvP.step ?_
    simp only [laws_toTraceS.l0, wrap_succ hi hl, rdT45 l i hi, Int.toNat_natCast]
    refine EvP.pos (by omega) (EvP.pos (by omega) ?_)
    refine EvP.bind (to45 l[i] (hs.2 _ (List.getElem_mem _))) (fun r hr => ?_)
    subst hr
    refine EvP.pos (by omega) ?_
    exact ih (i + 1) _ (by omega) hst.1 hst.2
theorem toS23 (l : List (S45)) (hs : (l.length ≤ 1048576 ∧ ∀ y ∈ l, small45 y)) : EvP (fun k => laws_toTraceS.f k l) (fun r => r = (l.map conv45)) := by
  have hl := hs.1
  unfold laws_toTraceS.f
  refine EvP.pos (by omega) (EvP.pos (by omega) ?_)
  refine (toL23 l hs l.length 0 _ (by omega) (by simp) (by simp)).imp (fun r hr => ?_)
  rw [hr]
theorem eqL23 (l : List (S51)) (hs : (l.length ≤ 1048576 ∧ ∀ y ∈ l, smalli45 y)) : ∀ (d i : Nat), i + d = l.length → EvP (fun k => laws_eqTraceS.l0 k l l (i : Int)) (fun r => r = true) := by
  have hl := hs.1
  intro d
  induction d with
  | zero =>
    intro i h
    refine EvP.step ?_
    simp only [laws_eqTraceS.l0]
    exact EvP.neg (by omega) (EvP.now rfl)
  | succ d ih =>
    intro i h
    have hi : i < l.length := by omega
    refine EvP.step ?_
    simp only [laws_eqTraceS.l0, wrap_succ hi hl, rdT51 l i hi]
    refine EvP.pos (by omega) (EvP.pos (by omega) (EvP.pos (by omega) ?_))
    refine EvP.bind (eq45 l[i] (hs.2 _ (List.getElem_mem _))) (fun r hr => ?_)
    subst hr
    refine EvP.pos rfl ?_
    exact ih (i + 1) (by omega)
theorem eqS23 (l : List (S51)) (hs : (l.length ≤ 1048576 ∧ ∀ y ∈ l, smalli45 y)) : EvP (fun k => laws_eqTraceS.f k l l) (fun r => r = true) := by
  unfold laws_eqTraceS.f
  simp only [if_true]
  exact eqL23 l hs l.length 0 (by omega)
theorem small_convS23 (l : List (S45)) (hs : (l.length ≤ 1048576 ∧ ∀ y ∈ l, small45 y)) : ((l.map conv45).length ≤ 1048576 ∧ ∀ y ∈ (l.map conv45), smalli45 y) := by
  refine ⟨by rw [List.length_map]; exact hs.1, fun y hy => ?_⟩
  obtain ⟨z, hz, rfl⟩ := List.mem_map.1 hy
  exact small_conv45 z (hs.2 z hz)
end Go.Proofs.YthcamcmjafhehaaDoor.BFnExactKeepTraces
