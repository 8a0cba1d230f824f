/- What the law's own helpers compute (sizes, copies, comparisons). Written by a program of this repo's (plaingen.py). -/
import Derived.Test.YtiomamfegdblfaaGFnExactGoodStreams
import Derived.Test.YtiomamfegdblfaaEv
import Derived.Test.YtiomamfegdblfaaPFnExactGoodStreamsx1
import Derived.Test.YtiomamfegdblfaaPFnExactGoodStreamsx3
import Derived.Test.YtiomamfegdblfaaPFnExactGoodStreamsx4
import Derived.Test.YtiomamfegdblfaaPFnExactGoodStreamsx6
import Derived.Test.YtiomamfegdblfaaPFnExactGoodStreamsx7
import Derived.Test.YtiomamfegdblfaaPFnExactGoodStreamsx8
namespace Go.Proofs.Ytiomamfegdblfaa.BFnExactGoodStreams
open Go.RowKit Go.Proofs.Ytiomamfegdblfaa.PFnExactGoodStreams Go.Proofs.YtiomamfegdblfaaW.PrintWords Go.Proofs.YtiomamfegdblfaaW.PrintLast Go.Proofs.Ytiomamfegdblfaa.Opn Go.Proofs.Ytiomamfegdblfaa.GFnExactGoodStreams Go.Proofs.Ytiomamfegdblfaa.Evs
set_option linter.unusedVariables false
/-! loop.example/g00039/laws.Label -/
def small59 (x : S59) : Prop := x.f0.size ≤ 1048576 ∧ x.f1.size ≤ 1048576
def conv59 (x : S59) : S49 := ⟨x.f0, x.f1⟩
theorem rdT59 (l : List S59) (i : Nat) (h : i < l.length) : rd_T59 l (i : Int) = l[i] := getD_get _ l i h
theorem rdT49 (l : List S49) (i : Nat) (h : i < l.length) : rd_T49 l (i : Int) = l[i] := getD_get _ l i h
theorem sz59 (x : S59) (hg : good59 x) (left : Int) (h0 : 0 ≤ left) (h1 : left ≤ 1048576) : EvP (fun k => laws_szLabel.f x.f0 x.f1 left) (fun r => r ≤ left ∧ (0 ≤ r → small59 x)) := by
  unfold laws_szLabel.f
  obtain ⟨g0, g1⟩ := hg
  have e0 : wrap64 (left - (x.f0.size : Int)) = left - (x.f0.size : Int) := w64 (by omega) (by omega)
  simp only [e0]
  refine EvP.ite (fun hc => EvP.now ⟨by omega, fun h => by omega⟩) (fun hc0 => ?_)
  have s0 : x.f0.size ≤ 1048576 := by omega
  have p0 : 0 ≤ left - (x.f0.size : Int) := by omega
  have e1 : wrap64 ((left - (x.f0.size : Int)) - (x.f1.size : Int)) = (left - (x.f0.size : Int)) - (x.f1.size : Int) := w64 (by omega) (by omega)
  simp only [e1]
  refine EvP.ite (fun hc => EvP.now ⟨by omega, fun h => by omega⟩) (fun hc1 => ?_)
  have s1 : x.f1.size ≤ 1048576 := by omega
  have p1 : 0 ≤ (left - (x.f0.size : Int)) - (x.f1.size : Int) := by omega
  exact EvP.now ⟨by omega, fun _ => ⟨s0, s1⟩⟩
theorem to59 (x : S59) (hs : small59 x) : EvP (fun k => laws_toLabel.f x.f0 x.f1) (fun r => r = ((conv59 x).f0, (conv59 x).f1)) := by
  unfold laws_toLabel.f
  obtain ⟨s0, s1⟩ := hs
  exact EvP.now rfl
def smalli59 (x : S49) : Prop := x.f0.size ≤ 1048576 ∧ x.f1.size ≤ 1048576
theorem eq59 (x : S49) (hs : smalli59 x) : EvP (fun k => laws_eqLabel.f x.f0 x.f1 x.f0 x.f1) (fun r => r = true) := by
  unfold laws_eqLabel.f
  obtain ⟨s0, s1⟩ := hs
  refine EvP.pos rfl ?_
  refine EvP.pos rfl ?_
  exact EvP.now rfl
theorem small_conv59 (x : S59) (hs : small59 x) : smalli59 (conv59 x) := by
  obtain ⟨s0, s1⟩ := hs
  exact ⟨s0, s1⟩
/-! lists of loop.example/g00039/laws.Label -/
theorem szL30 (l : List (S59)) (hg : GoodL good59 l) : ∀ (d i : Nat) (left : Int), i + d = l.length → l.length ≤ 1048576 → 0 ≤ left → left ≤ 1048576 → (∀ j y, j < i → l[j]? = some y → small59 y) →
    EvP (fun k => laws_szLabelS.l0 k l left (i : Int)) (fun r => r ≤ left ∧ (0 ≤ r → ∀ y ∈ l, small59 y)) := by
  intro d
  induction d with
  | zero =>
    intro i left h hl h0 h1 hd
    refine EvP.step ?_
    simp only [laws_szLabelS.l0]
    refine EvP.neg (by omega) (EvP.now ⟨Int.le_refl _, fun _ y hy => ?_⟩)
    obtain ⟨j, hj⟩ := List.getElem?_of_mem hy
    exact hd j y (by have := (List.getElem?_eq_some_iff.1 hj).1; omega) hj
  | succ d ih =>
    intro i left h hl h0 h1 hd
    have hi : i < l.length := by omega
    refine EvP.step ?_
    simp only [laws_szLabelS.l0, wrap_succ hi hl, rdT59 l i hi]
    refine EvP.pos (by omega) (EvP.pos (by omega) ?_)
    refine EvP.bind (sz59 l[i] (hg.2 _ (List.getElem_mem _)) left h0 h1) (fun r hr => ?_)
    refine EvP.ite (fun hc => EvP.now ⟨by omega, fun h => by omega⟩) (fun hc => ?_)
    refine (ih (i + 1) r (by omega) hl (by omega) (by omega) (fun j y hj hy => ?_)).imp (fun q hq => ⟨by omega, hq.2⟩)
    · by_cases hji : j = i
      · subst hji
        rw [List.getElem?_eq_getElem hi] at hy
        obtain rfl := Option.some.inj hy
        exact hr.2 (by omega)
      · exact hd j y (by omega) hy
theorem szS30 (l : List (S59)) (hg : GoodL good59 l) (left : Int) (h0 : 0 ≤ left) (h1 : left ≤ 1048576) : EvP (fun k => laws_szLabelS.f k l left) (fun r => r ≤ left ∧ (0 ≤ r → (l.length ≤ 1048576 ∧ ∀ y ∈ l, small59 y))) := by
  have hl := hg.1
  unfold laws_szLabelS.f
  have e : wrap64 (left - (l.length : Int)) = left - (l.length : Int) := w64 (by omega) (by omega)
  simp only [e]
  refine EvP.ite (fun hc => EvP.now ⟨by omega, fun h => by omega⟩) (fun hc => ?_)
  exact (szL30 l hg l.length 0 _ (by omega) (by omega) (by omega) (by omega) (fun j y hj _ => by omega)).imp (fun r hr => ⟨by omega, fun h => ⟨by omega, hr.2 h⟩⟩)
theorem toL30 (l : List (S59)) (hs : (l.length ≤ 1048576 ∧ ∀ y ∈ l, small59 y)) : ∀ (d i : Nat) (acc : List (S49)), i + d = l.length → acc.length = l.length → acc.take i = (l.take i).map conv59 → EvP (fun k => laws_toLabelS.l0 k l acc (i : Int)) (fun r => r = l.map conv59) := by
  have hl := hs.1
  intro d
  induction d with
  | zero =>
    intro i acc h ha ht
    refine EvP.step ?_
    simp only [laws_toLabelS.l0]
    refine EvP.neg (by omega) (EvP.now ?_)
    obtain rfl : i = l.length := by omega
    exact take_all l _ acc ha ht
  | succ d ih =>
    intro i acc h ha ht
    have hi : i < l.length := by omega
    have hst := take_conv l conv59 acc i hi ha ht
    refine EvP.step ?_
    simp only [laws_toLabelS.l0, wrap_succ hi hl, rdT59 l i hi, Int.toNat_natCast]
    refine EvP.pos (by omega) (EvP.pos (by omega) ?_)
    refine EvP.bind (to59 l[i] (hs.2 _ (List.getElem_mem _))) (fun r hr => ?_)
    subst hr
    refine EvP.pos (by omega) ?_
    exact ih (i + 1) _ (by omega) hst.1 hst.2
theorem toS30 (l : List (S59)) (hs : (l.length ≤ 1048576 ∧ ∀ y ∈ l, small59 y)) : EvP (fun k => laws_toLabelS.f k l) (fun r => r = (l.map conv59)) := by
  have hl := hs.1
  unfold laws_toLabelS.f
  refine EvP.pos (by omega) (EvP.pos (by omega) ?_)
  refine (toL30 l hs l.length 0 _ (by omega) (by simp) (by simp)).imp (fun r hr => ?_)
  rw [hr]
theorem eqL30 (l : List (S49)) (hs : (l.length ≤ 1048576 ∧ ∀ y ∈ l, smalli59 y)) : ∀ (d i : Nat), i + d = l.length → EvP (fun k => laws_eqLabelS.l0 k l l (i : Int)) (fun r => r = true) := by
  have hl := hs.1
  intro d
  induction d with
  | zero =>
    intro i h
    refine EvP.step ?_
    simp only [laws_eqLabelS.l0]
    exact EvP.neg (by omega) (EvP.now rfl)
  | succ d ih =>
    intro i h
    have hi : i < l.length := by omega
    refine EvP.step ?_
    simp only [laws_eqLabelS.l0, wrap_succ hi hl, rdT49 l i hi]
    refine EvP.pos (by omega) (EvP.pos (by omega) (EvP.pos (by omega) ?_))
    refine EvP.bind (eq59 l[i] (hs.2 _ (List.getElem_mem _))) (fun r hr => ?_)
    subst hr
    refine EvP.pos rfl ?_
    exact ih (i + 1) (by omega)
theorem eqS30 (l : List (S49)) (hs : (l.length ≤ 1048576 ∧ ∀ y ∈ l, smalli59 y)) : EvP (fun k => laws_eqLabelS.f k l l) (fun r => r = true) := by
  unfold laws_eqLabelS.f
  simp only [if_true]
  exact eqL30 l hs l.length 0 (by omega)
theorem small_convS30 (l : List (S59)) (hs : (l.length ≤ 1048576 ∧ ∀ y ∈ l, small59 y)) : ((l.map conv59).length ≤ 1048576 ∧ ∀ y ∈ (l.map conv59), smalli59 y) := by
  refine ⟨by rw [List.length_map]; exact hs.1, fun y hy => ?_⟩
  obtain ⟨z, hz, rfl⟩ := List.mem_map.1 hy
  exact small_conv59 z (hs.2 z hz)
/-! loop.example/g00039/laws.Line -/
def small61 (x : S61) : Prop := True ∧ x.f1.size ≤ 1048576
def conv61 (x : S61) : S41 := ⟨x.f0, x.f1⟩
theorem rdT61 (l : List S61) (i : Nat) (h : i < l.length) : rd_T61 l (i : Int) = l[i] := getD_get _ l i h
theorem rdT41 (l : List S41) (i : Nat) (h : i < l.length) : rd_T41 l (i : Int) = l[i] := getD_get _ l i h
theorem sz61 (x : S61) (hg : good61 x) (left : Int) (h0 : 0 ≤ left) (h1 : left ≤ 1048576) : EvP (fun k => laws_szLine.f x.f0 x.f1 left) (fun r => r ≤ left ∧ (0 ≤ r → small61 x)) := by
  unfold laws_szLine.f
  obtain ⟨g0, g1⟩ := hg
  have e1 : wrap64 (left - (x.f1.size : Int)) = left - (x.f1.size : Int) := w64 (by omega) (by omega)
  simp only [e1]
  refine EvP.ite (fun hc => EvP.now ⟨by omega, fun h => by omega⟩) (fun hc1 => ?_)
  have s1 : x.f1.size ≤ 1048576 := by omega
  have p1 : 0 ≤ left - (x.f1.size : Int) := by omega
  exact EvP.now ⟨by omega, fun _ => ⟨trivial, s1⟩⟩
theorem to61 (x : S61) (hs : small61 x) : EvP (fun k => laws_toLine.f x.f0 x.f1) (fun r => r = ((conv61 x).f0, (conv61 x).f1)) := by
  unfold laws_toLine.f
  obtain ⟨s0, s1⟩ := hs
  exact EvP.now rfl
def smalli61 (x : S41) : Prop := True ∧ x.f1.size ≤ 1048576
theorem eq61 (x : S41) (hs : smalli61 x) : EvP (fun k => laws_eqLine.f x.f0 x.f1 x.f0 x.f1) (fun r => r = true) := by
  unfold laws_eqLine.f
  obtain ⟨s0, s1⟩ := hs
  refine EvP.pos rfl ?_
  refine EvP.pos rfl ?_
  exact EvP.now rfl
theorem small_conv61 (x : S61) (hs : small61 x) : smalli61 (conv61 x) := by
  obtain ⟨s0, s1⟩ := hs
  exact ⟨s0, s1⟩
/-! lists of loop.example/g00039/laws.Line -/
theorem szL31 (l : List (S61)) (hg : GoodL good61 l) : ∀ (d i : Nat) (left : Int), i + d = l.length → l.length ≤ 1048576 → 0 ≤ left → left ≤ 1048576 → (∀ j y, j < i → l[j]? = some y → small61 y) →
    EvP (fun k => laws_szLineS.l0 k l left (i : Int)) (fun r => r ≤ left ∧ (0 ≤ r → ∀ y ∈ l, small61 y)) := by
  intro d
  induction d with
  | zero =>
    intro i left h hl h0 h1 hd
    refine EvP.step ?_
    simp only [laws_szLineS.l0]
    refine EvP.neg (by omega) (EvP.now ⟨Int.le_refl _, fun _ y hy => ?_⟩)
    obtain ⟨j, hj⟩ := List.getElem?_of_mem hy
    exact hd j y (by have := (List.getElem?_eq_some_iff.1 hj).1; omega) hj
  | succ d ih =>
    intro i left h hl h0 h1 hd
    have hi : i < l.length := by omega
    refine EvP.step ?_
    simp only [laws_szLineS.l0, wrap_succ hi hl, rdT61 l i hi]
    refine EvP.pos (by omega) (EvP.pos (by omega) ?_)
    refine EvP.bind (sz61 l[i] (hg.2 _ (List.getElem_mem _)) left h0 h1) (fun r hr => ?_)
    refine EvP.ite (fun hc => EvP.now ⟨by omega, fun h => by omega⟩) (fun hc => ?_)
    refine (ih (i + 1) r (by omega) hl (by omega) (by omega) (fun j y hj hy => ?_)).imp (fun q hq => ⟨by omega, hq.2⟩)
    · by_cases hji : j = i
      · subst hji
        rw [List.getElem?_eq_getElem hi] at hy
        obtain rfl := Option.some.inj hy
        exact hr.2 (by omega)
      · exact hd j y (by omega) hy
theorem szS31 (l : List (S61)) (hg : GoodL good61 l) (left : Int) (h0 : 0 ≤ left) (h1 : left ≤ 1048576) : EvP (fun k => laws_szLineS.f k l left) (fun r => r ≤ left ∧ (0 ≤ r → (l.length ≤ 1048576 ∧ ∀ y ∈ l, small61 y))) := by
  have hl := hg.1
  unfold laws_szLineS.f
  have e : wrap64 (left - (l.length : Int)) = left - (l.length : Int) := w64 (by omega) (by omega)
  simp only [e]
  refine EvP.ite (fun hc => EvP.now ⟨by omega, fun h => by omega⟩) (fun hc => ?_)
  exact (szL31 l hg l.length 0 _ (by omega) (by omega) (by omega) (by omega) (fun j y hj _ => by omega)).imp (fun r hr => ⟨by omega, fun h => ⟨by omega, hr.2 h⟩⟩)
theorem toL31 (l : List (S61)) (hs : (l.length ≤ 1048576 ∧ ∀ y ∈ l, small61 y)) : ∀ (d i : Nat) (acc : List (S41)), i + d = l.length → acc.length = l.length → acc.take i = (l.take i).map conv61 → EvP (fun k => laws_toLineS.l0 k l acc (i : Int)) (fun r => r = l.map conv61) := by
  have hl := hs.1
  intro d
  induction d with
  | zero =>
    intro i acc h ha ht
    refine EvP.step ?_
    simp only [laws_toLineS.l0]
    refine EvP.neg (by omega) (EvP.now ?_)
    obtain rfl : i = l.length := by omega
    exact take_all l _ acc ha ht
  | succ d ih =>
    intro i acc h ha ht
    have hi : i < l.length := by omega
    have hst := take_conv l conv61 acc i hi ha ht
    refine EvP.step ?_
    simp only [laws_toLineS.l0, wrap_succ hi hl, rdT61 l i hi, Int.toNat_natCast]
    refine EvP.pos (by omega) (EvP.pos (by omega) ?_)
    refine EvP.bind (to61 l[i] (hs.2 _ (List.getElem_mem _))) (fun r hr => ?_)
    subst hr
    refine EvP.pos (by omega) ?_
    exact ih (i + 1) _ (by omega) hst.1 hst.2
theorem toS31 (l : List (S61)) (hs : (l.length ≤ 1048576 ∧ ∀ y ∈ l, small61 y)) : EvP (fun k => laws_toLineS.f k l) (fun r => r = (l.map conv61)) := by
  have hl := hs.1
  unfold laws_toLineS.f
  refine EvP.pos (by omega) (EvP.pos (by omega) ?_)
  refine (toL31 l hs l.length 0 _ (by omega) (by simp) (by simp)).imp (fun r hr => ?_)
  rw [hr]
theorem eqL31 (l : List (S41)) (hs : (l.length ≤ 1048576 ∧ ∀ y ∈ l, smalli61 y)) : ∀ (d i : Nat), i + d = l.length → EvP (fun k => laws_eqLineS.l0 k l l (i : Int)) (fun r => r = true) := by
  have hl := hs.1
  intro d
  induction d with
  | zero =>
    intro i h
    refine EvP.step ?_
    simp only [laws_eqLineS.l0]
    exact EvP.neg (by omega) (EvP.now rfl)
  | succ d ih =>
    intro i h
    have hi : i < l.length := by omega
    refine EvP.step ?_
    simp only [laws_eqLineS.l0, wrap_succ hi hl, rdT41 l i hi]
    refine EvP.pos (by omega) (EvP.pos (by omega) (EvP.pos (by omega) ?_))
    refine EvP.bind (eq61 l[i] (hs.2 _ (List.getElem_mem _))) (fun r hr => ?_)
    subst hr
    refine EvP.pos rfl ?_
    exact ih (i + 1) (by omega)
theorem eqS31 (l : List (S41)) (hs : (l.length ≤ 1048576 ∧ ∀ y ∈ l, smalli61 y)) : EvP (fun k => laws_eqLineS.f k l l) (fun r => r = true) := by
  unfold laws_eqLineS.f
  simp only [if_true]
  exact eqL31 l hs l.length 0 (by omega)
theorem small_convS31 (l : List (S61)) (hs : (l.length ≤ 1048576 ∧ ∀ y ∈ l, small61 y)) : ((l.map conv61).length ≤ 1048576 ∧ ∀ y ∈ (l.map conv61), smalli61 y) := by
  refine ⟨by rw [List.length_map]; exact hs.1, fun y hy => ?_⟩
  obtain ⟨z, hz, rfl⟩ := List.mem_map.1 hy
  exact small_conv61 z (hs.2 z hz)
/-! loop.example/g00039/laws.Stream -/
def small33 (x : S33) : Prop := (x.f0.length ≤ 1048576 ∧ ∀ y ∈ x.f0, small59 y) ∧ (x.f1.length ≤ 1048576 ∧ ∀ y ∈ x.f1, small61 y)
def conv33 (x : S33) : S37 := ⟨(x.f0.map conv59), (x.f1.map conv61)⟩
theorem rdT33 (l : List S33) (i : Nat) (h : i < l.length) : rd_T33 l (i : Int) = l[i] := getD_get _ l i h
theorem rdT37 (l : List S37) (i : Nat) (h : i < l.length) : rd_T37 l (i : Int) = l[i] := getD_get _ l i h
theorem sz33 (x : S33) (hg : good33 x) (left : Int) (h0 : 0 ≤ left) (h1 : left ≤ 1048576) : EvP (fun k => laws_szStream.f k x.f0 x.f1 left) (fun r => r ≤ left ∧ (0 ≤ r → small33 x)) := by
  unfold laws_szStream.f
  obtain ⟨g0, g1⟩ := hg
  refine EvP.bind (szS30 x.f0 g0 left (by omega) (by omega)) (fun r0 hr0 => ?_)
  refine EvP.ite (fun hc => EvP.now ⟨by omega, fun h => by omega⟩) (fun hc0 => ?_)
  have s0 := hr0.2 (by omega)
  refine EvP.bind (szS31 x.f1 g1 r0 (by omega) (by omega)) (fun r1 hr1 => ?_)
  refine EvP.ite (fun hc => EvP.now ⟨by omega, fun h => by omega⟩) (fun hc1 => ?_)
  have s1 := hr1.2 (by omega)
  exact EvP.now ⟨by omega, fun _ => ⟨s0, s1⟩⟩
theorem to33 (x : S33) (hs : small33 x) : EvP (fun k => laws_toStream.f k x.f0 x.f1) (fun r => r = ((conv33 x).f0, (conv33 x).f1)) := by
  unfold laws_toStream.f
  obtain ⟨s0, s1⟩ := hs
  refine EvP.bind (toS30 x.f0 s0) (fun r0 hr0 => ?_)
  subst hr0
  refine EvP.bind (toS31 x.f1 s1) (fun r1 hr1 => ?_)
  subst hr1
  exact EvP.now rfl
def smalli33 (x : S37) : Prop := (x.f0.length ≤ 1048576 ∧ ∀ y ∈ x.f0, smalli59 y) ∧ (x.f1.length ≤ 1048576 ∧ ∀ y ∈ x.f1, smalli61 y)
theorem eq33 (x : S37) (hs : smalli33 x) : EvP (fun k => laws_eqStream.f k x.f0 x.f1 x.f0 x.f1) (fun r => r = true) := by
  unfold laws_eqStream.f
  obtain ⟨s0, s1⟩ := hs
  refine EvP.bind (eqS30 x.f0 s0) (fun r0 hr0 => ?_)
  subst hr0
  refine EvP.pos rfl ?_
  refine EvP.bind (eqS31 x.f1 s1) (fun r1 hr1 => ?_)
  subst hr1
  refine EvP.pos rfl ?_
  exact EvP.now rfl
theorem small_conv33 (x : S33) (hs : small33 x) : smalli33 (conv33 x) := by
  obtain ⟨s0, s1⟩ := hs
  exact ⟨small_convS30 x.f0 s0, small_convS31 x.f1 s1⟩
/-! lists of loop.example/g00039/laws.Stream -/
theorem szL22 (l : List (S33)) (hg : GoodL good33 l) : ∀ (d i : Nat) (left : Int), i + d = l.length → l.length ≤ 1048576 → 0 ≤ left → left ≤ 1048576 → (∀ j y, j < i → l[j]? = some y → small33 y) →
    EvP (fun k => laws_szStreamS.l0 k l left (i : Int)) (fun r => r ≤ left ∧ (0 ≤ r → ∀ y ∈ l, small33 y)) := by
  intro d
  induction d with
  | zero =>
    intro i left h hl h0 h1 hd
    refine EvP.step ?_
    simp only [laws_szStreamS.l0]
    refine EvP.neg (by omega) (EvP.now ⟨Int.le_refl _, fun _ y hy => ?_⟩)
    obtain ⟨j, hj⟩ := List.getElem?_of_mem hy
    exact hd j y (by have := (List.getElem?_eq_some_iff.1 hj).1; omega) hj
  | succ d ih =>
    intro i left h hl h0 h1 hd
    have hi : i < l.length := by omega
    refine EvP.step ?_
    simp only [laws_szStreamS.l0, wrap_succ hi hl, rdT33 l i hi]
    refine EvP.pos (by omega) (EvP.pos (by omega) ?_)
    refine EvP.bind (sz33 l[i] (hg.2 _ (List.getElem_mem _)) left h0 h1) (fun r hr => ?_)
    refine EvP.ite (fun hc => EvP.now ⟨by omega, fun h => by omega⟩) (fun hc => ?_)
    refine (ih (i + 1) r (by omega) hl (by omega) (by omega) (fun j y hj hy => ?_)).imp (fun q hq => ⟨by omega, hq.2⟩)
    · by_cases hji : j = i
      · subst hji
        rw [List.getElem?_eq_getElem hi] at hy
        obtain rfl := Option.some.inj hy
        exact hr.2 (by omega)
      · exact hd j y (by omega) hy
theorem szS22 (l : List (S33)) (hg : GoodL good33 l) (left : Int) (h0 : 0 ≤ left) (h1 : left ≤ 1048576) : EvP (fun k => laws_szStreamS.f k l left) (fun r => r ≤ left ∧ (0 ≤ r → (l.length ≤ 1048576 ∧ ∀ y ∈ l, small33 y))) := by
  have hl := hg.1
  unfold laws_szStreamS.f
  have e : wrap64 (left - (l.length : Int)) = left - (l.length : Int) := w64 (by omega) (by omega)
  simp only [e]
  refine EvP.ite (fun hc => EvP.now ⟨by omega, fun h => by omega⟩) (fun hc => ?_)
  exact (szL22 l hg l.length 0 _ (by omega) (by omega) (by omega) (by omega) (fun j y hj _ => by omega)).imp (fun r hr => ⟨by omega, fun h => ⟨by omega, hr.2 h⟩⟩)
theorem toL22 (l : List (S33)) (hs : (l.length ≤ 1048576 ∧ ∀ y ∈ l, small33 y)) : ∀ (d i : Nat) (acc : List (S37)), i + d = l.length → acc.length = l.length → acc.take i = (l.take i).map conv33 → EvP (fun k => laws_toStreamS.l0 k l acc (i : Int)) (fun r => r = l.map conv33) := by
  have hl := hs.1
  intro d
  induction d with
  | zero =>
    intro i acc h ha ht
    refine EvP.step ?_
    simp only [laws_toStreamS.l0]
    refine EvP.neg (by omega) (EvP.now ?_)
    obtain rfl : i = l.length := by omega
    exact take_all l _ acc ha ht
  | succ d ih =>
    intro i acc h ha ht
    have hi : i < l.length := by omega
    have hst := take_conv l conv33 acc i hi ha ht
    refine EvP.step ?_
    simp only [laws_toStreamS.l0, wrap_succ hi hl, rdT33 l i hi, Int.toNat_natCast]
    refine EvP.pos (by omega) (EvP.pos (by omega) ?_)
    refine EvP.bind (to33 l[i] (hs.2 _ (List.getElem_mem _))) (fun r hr => ?_)
    subst hr
    refine EvP.pos (by omega) ?_
    exact ih (i + 1) _ (by omega) hst.1 hst.2
theorem toS22 (l : List (S33)) (hs : (l.length ≤ 1048576 ∧ ∀ y ∈ l, small33 y)) : EvP (fun k => laws_toStreamS.f k l) (fun r => r = (l.map conv33)) := by
  have hl := hs.1
  unfold laws_toStreamS.f
  refine EvP.pos (by omega) (EvP.pos (by omega) ?_)
  refine (toL22 l hs l.length 0 _ (by omega) (by simp) (by simp)).imp (fun r hr => ?_)
  rw [hr]
theorem eqL22 (l : List (S37)) (hs : (l.length ≤ 1048576 ∧ ∀ y ∈ l, smalli33 y)) : ∀ (d i : Nat), i + d = l.length → EvP (fun k => laws_eqStreamS.l0 k l l (i : Int)) (fun r => r = true) := by
  have hl := hs.1
  intro d
  induction d with
  | zero =>
    intro i h
    refine EvP.step ?_
    simp only [laws_eqStreamS.l0]
    exact EvP.neg (by omega) (EvP.now rfl)
  | succ d ih =>
    intro i h
    have hi : i < l.length := by omega
    refine EvP.step ?_
    simp only [laws_eqStreamS.l0, wrap_succ hi hl, rdT37 l i hi]
    refine EvP.pos (by omega) (EvP.pos (by omega) (EvP.pos (by omega) ?_))
    refine EvP.bind (eq33 l[i] (hs.2 _ (List.getElem_mem _))) (fun r hr => ?_)
    subst hr
    refine EvP.pos rfl ?_
    exact ih (i + 1) (by omega)
theorem eqS22 (l : List (S37)) (hs : (l.length ≤ 1048576 ∧ ∀ y ∈ l, smalli33 y)) : EvP (fun k => laws_eqStreamS.f k l l) (fun r => r = true) := by
  unfold laws_eqStreamS.f
  simp only [if_true]
  exact eqL22 l hs l.length 0 (by omega)
theorem small_convS22 (l : List (S33)) (hs : (l.length ≤ 1048576 ∧ ∀ y ∈ l, small33 y)) : ((l.map conv33).length ≤ 1048576 ∧ ∀ y ∈ (l.map conv33), smalli33 y) := by
  refine ⟨by rw [List.length_map]; exact hs.1, fun y hy => ?_⟩
  obtain ⟨z, hz, rfl⟩ := List.mem_map.1 hy
  exact small_conv33 z (hs.2 z hz)
end Go.Proofs.Ytiomamfegdblfaa.BFnExactGoodStreams
