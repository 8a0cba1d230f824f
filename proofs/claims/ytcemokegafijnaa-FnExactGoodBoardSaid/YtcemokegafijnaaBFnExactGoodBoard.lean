/- What the law's own helpers compute (sizes, copies, comparisons). Written by a program of this repo's (plaingen.py). -/
import Derived.Test.YtcemokegafijnaaGFnExactGoodBoard
import Derived.Test.YtcemokegafijnaaEv
import Derived.Test.YtcemokegafijnaaPFnExactGoodBoardx1
import Derived.Test.YtcemokegafijnaaPFnExactGoodBoardx3
import Derived.Test.YtcemokegafijnaaPFnExactGoodBoardx5
import Derived.Test.YtcemokegafijnaaPFnExactGoodBoardx6
import Derived.Test.YtcemokegafijnaaPFnExactGoodBoardx7
namespace Go.Proofs.Ytcemokegafijnaa.BFnExactGoodBoard
open Go.RowKit Go.Proofs.Ytcemokegafijnaa.PFnExactGoodBoard Go.Proofs.YtcemokegafijnaaW.PrintWords Go.Proofs.YtcemokegafijnaaW.PrintLast Go.Proofs.Ytcemokegafijnaa.Opn Go.Proofs.Ytcemokegafijnaa.GFnExactGoodBoard Go.Proofs.Ytcemokegafijnaa.Evs
set_option linter.unusedVariables false
structure S25 where
  f0 : List (S54)
  f1 : List (S58)
def good25 (x : S25) : Prop := GoodL good54 x.f0 ∧ GoodL good58 x.f1
structure S31 where
  f0 : List (S39)
  f1 : List (S46)
/-! lists of string -/
theorem szL37 (l : List (ByteArray)) (hg : GoodL (fun x => x.size ≤ 9223372036854775807) l) : ∀ (d i : Nat) (left : Int), i + d = l.length → l.length ≤ 1048576 → 0 ≤ left → left ≤ 1048576 → (∀ j y, j < i → l[j]? = some y → y.size ≤ 1048576) →
    EvP (fun k => laws_szStringS.l0 k l left (i : Int)) (fun r => r ≤ left ∧ (0 ≤ r → ∀ y ∈ l, y.size ≤ 1048576)) := by
  intro d
  induction d with
  | zero =>
    intro i left h hl h0 h1 hd
    refine EvP.step ?_
    simp only [laws_szStringS.l0]
    refine EvP.neg (by omega) (EvP.now ⟨Int.le_refl _, fun _ y hy => ?_⟩)
    obtain ⟨j, hj⟩ := List.getElem?_of_mem hy
    exact hd j y (by have := (List.getElem?_eq_some_iff.1 hj).1; omega) hj
  | succ d ih =>
    intro i left h hl h0 h1 hd
    have hi : i < l.length := by omega
    refine EvP.step ?_
    simp only [laws_szStringS.l0, wrap_succ hi hl, rdOf_get _ l i hi]
    refine EvP.pos (by omega) (EvP.pos (by omega) ?_)
    have gs := hg.2 _ (List.getElem_mem hi)
    have e : wrap64 (left - (l[i].size : Int)) = left - (l[i].size : Int) := w64 (by omega) (by omega)
    simp only [e]
    refine EvP.ite (fun hc => EvP.now ⟨by omega, fun h => by omega⟩) (fun hc => ?_)
    refine (ih (i + 1) (left - (l[i].size : Int)) (by omega) hl (by omega) (by omega) (fun j y hj hy => ?_)).imp (fun q hq => ⟨by omega, hq.2⟩)
    · by_cases hji : j = i
      · subst hji
        rw [List.getElem?_eq_getElem hi] at hy
        obtain rfl := Option.some.inj hy
        omega
      · exact hd j y (by omega) hy
theorem szS37 (l : List (ByteArray)) (hg : GoodL (fun x => x.size ≤ 9223372036854775807) l) (left : Int) (h0 : 0 ≤ left) (h1 : left ≤ 1048576) : EvP (fun k => laws_szStringS.f k l left) (fun r => r ≤ left ∧ (0 ≤ r → (l.length ≤ 1048576 ∧ ∀ y ∈ l, y.size ≤ 1048576))) := by
  have hl := hg.1
  unfold laws_szStringS.f
  have e : wrap64 (left - (l.length : Int)) = left - (l.length : Int) := w64 (by omega) (by omega)
  simp only [e]
  refine EvP.ite (fun hc => EvP.now ⟨by omega, fun h => by omega⟩) (fun hc => ?_)
  exact (szL37 l hg l.length 0 _ (by omega) (by omega) (by omega) (by omega) (fun j y hj _ => by omega)).imp (fun r hr => ⟨by omega, fun h => ⟨by omega, hr.2 h⟩⟩)
theorem toL37 (l : List (ByteArray)) (hs : (l.length ≤ 1048576 ∧ ∀ y ∈ l, y.size ≤ 1048576)) : ∀ (d i : Nat) (acc : List (ByteArray)), i + d = l.length → acc.length = l.length → acc.take i = (l.take i).map (fun y => y) → EvP (fun k => laws_toStringS.l0 k l acc (i : Int)) (fun r => r = l.map (fun y => y)) := by
  have hl := hs.1
  intro d
  induction d with
  | zero =>
    intro i acc h ha ht
    refine EvP.step ?_
    simp only [laws_toStringS.l0]
    refine EvP.neg (by omega) (EvP.now ?_)
    obtain rfl : i = l.length := by omega
    exact take_all l _ acc ha ht
  | succ d ih =>
    intro i acc h ha ht
    have hi : i < l.length := by omega
    have hst := take_conv l (fun y => y) acc i hi ha ht
    refine EvP.step ?_
    simp only [laws_toStringS.l0, wrap_succ hi hl, rdOf_get _ l i hi, Int.toNat_natCast]
    refine EvP.pos (by omega) (EvP.pos (by omega) ?_)
    refine EvP.pos (by omega) ?_
    exact ih (i + 1) _ (by omega) hst.1 hst.2
theorem toS37 (l : List (ByteArray)) (hs : (l.length ≤ 1048576 ∧ ∀ y ∈ l, y.size ≤ 1048576)) : EvP (fun k => laws_toStringS.f k l) (fun r => r = l) := by
  have hl := hs.1
  unfold laws_toStringS.f
  refine EvP.pos (by omega) (EvP.pos (by omega) ?_)
  refine (toL37 l hs l.length 0 _ (by omega) (by simp) (by simp)).imp (fun r hr => ?_)
  rw [hr]
  simp
theorem eqL37 (l : List (ByteArray)) (hs : (l.length ≤ 1048576 ∧ ∀ y ∈ l, y.size ≤ 1048576)) : ∀ (d i : Nat), i + d = l.length → EvP (fun k => laws_eqStringS.l0 k l l (i : Int)) (fun r => r = true) := by
  have hl := hs.1
  intro d
  induction d with
  | zero =>
    intro i h
    refine EvP.step ?_
    simp only [laws_eqStringS.l0]
    exact EvP.neg (by omega) (EvP.now rfl)
  | succ d ih =>
    intro i h
    have hi : i < l.length := by omega
    refine EvP.step ?_
    simp only [laws_eqStringS.l0, wrap_succ hi hl, rdOf_get _ l i hi]
    refine EvP.pos (by omega) (EvP.pos (by omega) (EvP.pos (by omega) ?_))
    first | (simp only [if_true]) | (refine EvP.pos rfl ?_) | (refine EvP.neg (by simp) ?_)
    exact ih (i + 1) (by omega)
theorem eqS37 (l : List (ByteArray)) (hs : (l.length ≤ 1048576 ∧ ∀ y ∈ l, y.size ≤ 1048576)) : EvP (fun k => laws_eqStringS.f k l l) (fun r => r = true) := by
  unfold laws_eqStringS.f
  simp only [if_true]
  exact eqL37 l hs l.length 0 (by omega)
/-! loop.example/g00039/laws.Var -/
def small54 (x : S54) : Prop := x.f0.size ≤ 1048576 ∧ x.f1.size ≤ 1048576 ∧ (x.f2.length ≤ 1048576 ∧ ∀ y ∈ x.f2, y.size ≤ 1048576)
def conv54 (x : S54) : S39 := ⟨x.f0, x.f1, x.f2⟩
theorem rdT54 (l : List S54) (i : Nat) (h : i < l.length) : rd_T54 l (i : Int) = l[i] := getD_get _ l i h
theorem rdT39 (l : List S39) (i : Nat) (h : i < l.length) : rd_T39 l (i : Int) = l[i] := getD_get _ l i h
theorem sz54 (x : S54) (hg : good54 x) (left : Int) (h0 : 0 ≤ left) (h1 : left ≤ 1048576) : EvP (fun k => laws_szVar.f k x.f0 x.f1 x.f2 left) (fun r => r ≤ left ∧ (0 ≤ r → small54 x)) := by
  unfold laws_szVar.f
  obtain ⟨g0, g1, g2⟩ := hg
  have e0 : wrap64 (left - (x.f0.size : Int)) = left - (x.f0.size : Int) := w64 (by omega) (by omega)
  simp only [e0]
  refine EvP.ite (fun hc => EvP.now ⟨by omega, fun h => by omega⟩) (fun hc0 => ?_)
  have s0 : x.f0.size ≤ 1048576 := by omega
  have p0 : 0 ≤ left - (x.f0.size : Int) := by omega
  have e1 : wrap64 ((left - (x.f0.size : Int)) - (x.f1.size : Int)) = (left - (x.f0.size : Int)) - (x.f1.size : Int) := w64 (by omega) (by omega)
  simp only [e1]
  refine EvP.ite (fun hc => EvP.now ⟨by omega, fun h => by omega⟩) (fun hc1 => ?_)
  have s1 : x.f1.size ≤ 1048576 := by omega
  have p1 : 0 ≤ (left - (x.f0.size : Int)) - (x.f1.size : Int) := by omega
  refine EvP.bind (szS37 x.f2 g2 ((left - (x.f0.size : Int)) - (x.f1.size : Int)) (by omega) (by omega)) (fun r2 hr2 => ?_)
  refine EvP.ite (fun hc => EvP.now ⟨by omega, fun h => by omega⟩) (fun hc2 => ?_)
  have s2 := hr2.2 (by omega)
  exact EvP.now ⟨by omega, fun _ => ⟨s0, s1, s2⟩⟩
theorem to54 (x : S54) (hs : small54 x) : EvP (fun k => laws_toVar.f k x.f0 x.f1 x.f2) (fun r => r = ((conv54 x).f0, (conv54 x).f1, (conv54 x).f2)) := by
  unfold laws_toVar.f
  obtain ⟨s0, s1, s2⟩ := hs
  refine EvP.bind (toS37 x.f2 s2) (fun r2 hr2 => ?_)
  subst hr2
  exact EvP.now rfl
def smalli54 (x : S39) : Prop := x.f0.size ≤ 1048576 ∧ x.f1.size ≤ 1048576 ∧ (x.f2.length ≤ 1048576 ∧ ∀ y ∈ x.f2, y.size ≤ 1048576)
theorem eq54 (x : S39) (hs : smalli54 x) : EvP (fun k => laws_eqVar.f k x.f0 x.f1 x.f2 x.f0 x.f1 x.f2) (fun r => r = true) := by
  unfold laws_eqVar.f
  obtain ⟨s0, s1, s2⟩ := hs
  refine EvP.pos rfl ?_
  refine EvP.pos rfl ?_
  refine EvP.bind (eqS37 x.f2 s2) (fun r2 hr2 => ?_)
  subst hr2
  refine EvP.pos rfl ?_
  exact EvP.now rfl
theorem small_conv54 (x : S54) (hs : small54 x) : smalli54 (conv54 x) := by
  obtain ⟨s0, s1, s2⟩ := hs
  exact ⟨s0, s1, s2⟩
/-! lists of loop.example/g00039/laws.Var -/
theorem szL22 (l : List (S54)) (hg : GoodL good54 l) : ∀ (d i : Nat) (left : Int), i + d = l.length → l.length ≤ 1048576 → 0 ≤ left → left ≤ 1048576 → (∀ j y, j < i → l[j]? = some y → small54 y) →
    EvP (fun k => laws_szVarS.l0 k l left (i : Int)) (fun r => r ≤ left ∧ (0 ≤ r → ∀ y ∈ l, small54 y)) := by
  intro d
  induction d with
  | zero =>
    intro i left h hl h0 h1 hd
    refine EvP.step ?_
    simp only [laws_szVarS.l0]
    refine EvP.neg (by omega) (EvP.now ⟨Int.le_refl _, fun _ y hy => ?_⟩)
    obtain ⟨j, hj⟩ := List.getElem?_of_mem hy
    exact hd j y (by have := (List.getElem?_eq_some_iff.1 hj).1; omega) hj
  | succ d ih =>
    intro i left h hl h0 h1 hd
    have hi : i < l.length := by omega
    refine EvP.step ?_
    simp only [laws_szVarS.l0, wrap_succ hi hl, rdT54 l i hi]
    refine EvP.pos (by omega) (EvP.pos (by omega) ?_)
    refine EvP.bind (sz54 l[i] (hg.2 _ (List.getElem_mem _)) left h0 h1) (fun r hr => ?_)
    refine EvP.ite (fun hc => EvP.now ⟨by omega, fun h => by omega⟩) (fun hc => ?_)
    refine (ih (i + 1) r (by omega) hl (by omega) (by omega) (fun j y hj hy => ?_)).imp (fun q hq => ⟨by omega, hq.2⟩)
    · by_cases hji : j = i
      · subst hji
        rw [List.getElem?_eq_getElem hi] at hy
        obtain rfl := Option.some.inj hy
        exact hr.2 (by omega)
      · exact hd j y (by omega) hy
theorem szS22 (l : List (S54)) (hg : GoodL good54 l) (left : Int) (h0 : 0 ≤ left) (h1 : left ≤ 1048576) : EvP (fun k => laws_szVarS.f k l left) (fun r => r ≤ left ∧ (0 ≤ r → (l.length ≤ 1048576 ∧ ∀ y ∈ l, small54 y))) := by
  have hl := hg.1
  unfold laws_szVarS.f
  have e : wrap64 (left - (l.length : Int)) = left - (l.length : Int) := w64 (by omega) (by omega)
  simp only [e]
  refine EvP.ite (fun hc => EvP.now ⟨by omega, fun h => by omega⟩) (fun hc => ?_)
  exact (szL22 l hg l.length 0 _ (by omega) (by omega) (by omega) (by omega) (fun j y hj _ => by omega)).imp (fun r hr => ⟨by omega, fun h => ⟨by omega, hr.2 h⟩⟩)
theorem toL22 (l : List (S54)) (hs : (l.length ≤ 1048576 ∧ ∀ y ∈ l, small54 y)) : ∀ (d i : Nat) (acc : List (S39)), i + d = l.length → acc.length = l.length → acc.take i = (l.take i).map conv54 → EvP (fun k => laws_toVarS.l0 k l acc (i : Int)) (fun r => r = l.map conv54) := by
  have hl := hs.1
  intro d
  induction d with
  | zero =>
    intro i acc h ha ht
    refine EvP.step ?_
    simp only [laws_toVarS.l0]
    refine EvP.neg (by omega) (EvP.now ?_)
    obtain rfl : i = l.length := by omega
    exact take_all l _ acc ha ht
  | succ d ih =>
    intro i acc h ha ht
    have hi : i < l.length := by omega
    have hst := take_conv l conv54 acc i hi ha ht
    refine EvP.step ?_
    simp only [laws_toVarS.l0, wrap_succ hi hl, rdT54 l i hi, Int.toNat_natCast]
    refine EvP.pos (by omega) (EvP.pos (by omega) ?_)
    refine EvP.bind (to54 l[i] (hs.2 _ (List.getElem_mem _))) (fun r hr => ?_)
    subst hr
    refine EvP.pos (by omega) ?_
    exact ih (i + 1) _ (by omega) hst.1 hst.2
theorem toS22 (l : List (S54)) (hs : (l.length ≤ 1048576 ∧ ∀ y ∈ l, small54 y)) : EvP (fun k => laws_toVarS.f k l) (fun r => r = (l.map conv54)) := by
  have hl := hs.1
  unfold laws_toVarS.f
  refine EvP.pos (by omega) (EvP.pos (by omega) ?_)
  refine (toL22 l hs l.length 0 _ (by omega) (by simp) (by simp)).imp (fun r hr => ?_)
  rw [hr]
theorem eqL22 (l : List (S39)) (hs : (l.length ≤ 1048576 ∧ ∀ y ∈ l, smalli54 y)) : ∀ (d i : Nat), i + d = l.length → EvP (fun k => laws_eqVarS.l0 k l l (i : Int)) (fun r => r = true) := by
  have hl := hs.1
  intro d
  induction d with
  | zero =>
    intro i h
    refine EvP.step ?_
    simp only [laws_eqVarS.l0]
    exact EvP.neg (by omega) (EvP.now rfl)
  | succ d ih =>
    intro i h
    have hi : i < l.length := by omega
    refine EvP.step ?_
    simp only [laws_eqVarS.l0, wrap_succ hi hl, rdT39 l i hi]
    refine EvP.pos (by omega) (EvP.pos (by omega) (EvP.pos (by omega) ?_))
    refine EvP.bind (eq54 l[i] (hs.2 _ (List.getElem_mem _))) (fun r hr => ?_)
    subst hr
    refine EvP.pos rfl ?_
    exact ih (i + 1) (by omega)
theorem eqS22 (l : List (S39)) (hs : (l.length ≤ 1048576 ∧ ∀ y ∈ l, smalli54 y)) : EvP (fun k => laws_eqVarS.f k l l) (fun r => r = true) := by
  unfold laws_eqVarS.f
  simp only [if_true]
  exact eqL22 l hs l.length 0 (by omega)
theorem small_convS22 (l : List (S54)) (hs : (l.length ≤ 1048576 ∧ ∀ y ∈ l, small54 y)) : ((l.map conv54).length ≤ 1048576 ∧ ∀ y ∈ (l.map conv54), smalli54 y) := by
  refine ⟨by rw [List.length_map]; exact hs.1, fun y hy => ?_⟩
  obtain ⟨z, hz, rfl⟩ := List.mem_map.1 hy
  exact small_conv54 z (hs.2 z hz)
/-! loop.example/g00039/laws.Colour -/
def small75 (x : S75) : Prop := True ∧ x.f1.size ≤ 1048576
def conv75 (x : S75) : S62 := ⟨x.f0, x.f1⟩
theorem rdT75 (l : List S75) (i : Nat) (h : i < l.length) : rd_T75 l (i : Int) = l[i] := getD_get _ l i h
theorem rdT62 (l : List S62) (i : Nat) (h : i < l.length) : rd_T62 l (i : Int) = l[i] := getD_get _ l i h
theorem sz75 (x : S75) (hg : good75 x) (left : Int) (h0 : 0 ≤ left) (h1 : left ≤ 1048576) : EvP (fun k => laws_szColour.f x.f0 x.f1 left) (fun r => r ≤ left ∧ (0 ≤ r → small75 x)) := by
  unfold laws_szColour.f
  obtain ⟨g0, g1⟩ := hg
  have e1 : wrap64 (left - (x.f1.size : Int)) = left - (x.f1.size : Int) := w64 (by omega) (by omega)
  simp only [e1]
  refine EvP.ite (fun hc => EvP.now ⟨by omega, fun h => by omega⟩) (fun hc1 => ?_)
  have s1 : x.f1.size ≤ 1048576 := by omega
  have p1 : 0 ≤ left - (x.f1.size : Int) := by omega
  exact EvP.now ⟨by omega, fun _ => ⟨trivial, s1⟩⟩
theorem to75 (x : S75) (hs : small75 x) : EvP (fun k => laws_toColour.f x.f0 x.f1) (fun r => r = ((conv75 x).f0, (conv75 x).f1)) := by
  unfold laws_toColour.f
  obtain ⟨s0, s1⟩ := hs
  exact EvP.now rfl
def smalli75 (x : S62) : Prop := True ∧ x.f1.size ≤ 1048576
theorem eq75 (x : S62) (hs : smalli75 x) : EvP (fun k => laws_eqColour.f x.f0 x.f1 x.f0 x.f1) (fun r => r = true) := by
  unfold laws_eqColour.f
  obtain ⟨s0, s1⟩ := hs
  refine EvP.pos rfl ?_
  refine EvP.pos rfl ?_
  exact EvP.now rfl
theorem small_conv75 (x : S75) (hs : small75 x) : smalli75 (conv75 x) := by
  obtain ⟨s0, s1⟩ := hs
  exact ⟨s0, s1⟩
/-! lists of loop.example/g00039/laws.Colour -/
theorem szL56 (l : List (S75)) (hg : GoodL good75 l) : ∀ (d i : Nat) (left : Int), i + d = l.length → l.length ≤ 1048576 → 0 ≤ left → left ≤ 1048576 → (∀ j y, j < i → l[j]? = some y → small75 y) →
    EvP (fun k => laws_szColourS.l0 k l left (i : Int)) (fun r => r ≤ left ∧ (0 ≤ r → ∀ y ∈ l, small75 y)) := by
  intro d
  induction d with
  | zero =>
    intro i left h hl h0 h1 hd
    refine EvP.step ?_
    simp only [laws_szColourS.l0]
    refine EvP.neg (by omega) (EvP.now ⟨Int.le_refl _, fun _ y hy => ?_⟩)
    obtain ⟨j, hj⟩ := List.getElem?_of_mem hy
    exact hd j y (by have := (List.getElem?_eq_some_iff.1 hj).1; omega) hj
  | succ d ih =>
    intro i left h hl h0 h1 hd
    have hi : i < l.length := by omega
    refine EvP.step ?_
    simp only [laws_szColourS.l0, wrap_succ hi hl, rdT75 l i hi]
    refine EvP.pos (by omega) (EvP.pos (by omega) ?_)
    refine EvP.bind (sz75 l[i] (hg.2 _ (List.getElem_mem _)) left h0 h1) (fun r hr => ?_)
    refine EvP.ite (fun hc => EvP.now ⟨by omega, fun h => by omega⟩) (fun hc => ?_)
    refine (ih (i + 1) r (by omega) hl (by omega) (by omega) (fun j y hj hy => ?_)).imp (fun q hq => ⟨by omega, hq.2⟩)
    · by_cases hji : j = i
      · subst hji
        rw [List.getElem?_eq_getElem hi] at hy
        obtain rfl := Option.some.inj hy
        exact hr.2 (by omega)
      · exact hd j y (by omega) hy
theorem szS56 (l : List (S75)) (hg : GoodL good75 l) (left : Int) (h0 : 0 ≤ left) (h1 : left ≤ 1048576) : EvP (fun k => laws_szColourS.f k l left) (fun r => r ≤ left ∧ (0 ≤ r → (l.length ≤ 1048576 ∧ ∀ y ∈ l, small75 y))) := by
  have hl := hg.1
  unfold laws_szColourS.f
  have e : wrap64 (left - (l.length : Int)) = left - (l.length : Int) := w64 (by omega) (by omega)
  simp only [e]
  refine EvP.ite (fun hc => EvP.now ⟨by omega, fun h => by omega⟩) (fun hc => ?_)
  exact (szL56 l hg l.length 0 _ (by omega) (by omega) (by omega) (by omega) (fun j y hj _ => by omega)).imp (fun r hr => ⟨by omega, fun h => ⟨by omega, hr.2 h⟩⟩)
theorem toL56 (l : List (S75)) (hs : (l.length ≤ 1048576 ∧ ∀ y ∈ l, small75 y)) : ∀ (d i : Nat) (acc : List (S62)), i + d = l.length → acc.length = l.length → acc.take i = (l.take i).map conv75 → EvP (fun k => laws_toColourS.l0 k l acc (i : Int)) (fun r => r = l.map conv75) := by
  have hl := hs.1
  intro d
  induction d with
  | zero =>
    intro i acc h ha ht
    refine EvP.step ?_
    simp only [laws_toColourS.l0]
    refine EvP.neg (by omega) (EvP.now ?_)
    obtain rfl : i = l.length := by omega
    exact take_all l _ acc ha ht
  | succ d ih =>
    intro i acc h ha ht
    have hi : i < l.length := by omega
    have hst := take_conv l conv75 acc i hi ha ht
    refine EvP.step ?_
    simp only [laws_toColourS.l0, wrap_succ hi hl, rdT75 l i hi, Int.toNat_natCast]
    refine EvP.pos (by omega) (EvP.pos (by omega) ?_)
    refine EvP.bind (to75 l[i] (hs.2 _ (List.getElem_mem _))) (fun r hr => ?_)
    subst hr
    refine EvP.pos (by omega) ?_
    exact ih (i + 1) _ (by omega) hst.1 hst.2
theorem toS56 (l : List (S75)) (hs : (l.length ≤ 1048576 ∧ ∀ y ∈ l, small75 y)) : EvP (fun k => laws_toColourS.f k l) (fun r => r = (l.map conv75)) := by
  have hl := hs.1
  unfold laws_toColourS.f
  refine EvP.pos (by omega) (EvP.pos (by omega) ?_)
  refine (toL56 l hs l.length 0 _ (by omega) (by simp) (by simp)).imp (fun r hr => ?_)
  rw [hr]
theorem eqL56 (l : List (S62)) (hs : (l.length ≤ 1048576 ∧ ∀ y ∈ l, smalli75 y)) : ∀ (d i : Nat), i + d = l.length → EvP (fun k => laws_eqColourS.l0 k l l (i : Int)) (fun r => r = true) := by
  have hl := hs.1
  intro d
  induction d with
  | zero =>
    intro i h
    refine EvP.step ?_
    simp only [laws_eqColourS.l0]
    exact EvP.neg (by omega) (EvP.now rfl)
  | succ d ih =>
    intro i h
    have hi : i < l.length := by omega
    refine EvP.step ?_
    simp only [laws_eqColourS.l0, wrap_succ hi hl, rdT62 l i hi]
    refine EvP.pos (by omega) (EvP.pos (by omega) (EvP.pos (by omega) ?_))
    refine EvP.bind (eq75 l[i] (hs.2 _ (List.getElem_mem _))) (fun r hr => ?_)
    subst hr
    refine EvP.pos rfl ?_
    exact ih (i + 1) (by omega)
theorem eqS56 (l : List (S62)) (hs : (l.length ≤ 1048576 ∧ ∀ y ∈ l, smalli75 y)) : EvP (fun k => laws_eqColourS.f k l l) (fun r => r = true) := by
  unfold laws_eqColourS.f
  simp only [if_true]
  exact eqL56 l hs l.length 0 (by omega)
theorem small_convS56 (l : List (S75)) (hs : (l.length ≤ 1048576 ∧ ∀ y ∈ l, small75 y)) : ((l.map conv75).length ≤ 1048576 ∧ ∀ y ∈ (l.map conv75), smalli75 y) := by
  refine ⟨by rw [List.length_map]; exact hs.1, fun y hy => ?_⟩
  obtain ⟨z, hz, rfl⟩ := List.mem_map.1 hy
  exact small_conv75 z (hs.2 z hz)
/-! loop.example/g00039/laws.Panel -/
def small58 (x : S58) : Prop := x.f0.size ≤ 1048576 ∧ x.f1.size ≤ 1048576 ∧ True ∧ (x.f3.length ≤ 1048576 ∧ ∀ y ∈ x.f3, small75 y)
def conv58 (x : S58) : S46 := ⟨x.f0, x.f1, x.f2, (x.f3.map conv75)⟩
theorem rdT58 (l : List S58) (i : Nat) (h : i < l.length) : rd_T58 l (i : Int) = l[i] := getD_get _ l i h
theorem rdT46 (l : List S46) (i : Nat) (h : i < l.length) : rd_T46 l (i : Int) = l[i] := getD_get _ l i h
theorem sz58 (x : S58) (hg : good58 x) (left : Int) (h0 : 0 ≤ left) (h1 : left ≤ 1048576) : EvP (fun k => laws_szPanel.f k x.f0 x.f1 x.f2 x.f3 left) (fun r => r ≤ left ∧ (0 ≤ r → small58 x)) := by
  unfold laws_szPanel.f
  obtain ⟨g0, g1, g2, g3⟩ := hg
  have e0 : wrap64 (left - (x.f0.size : Int)) = left - (x.f0.size : Int) := w64 (by omega) (by omega)
  simp only [e0]
  refine EvP.ite (fun hc => EvP.now ⟨by omega, fun h => by omega⟩) (fun hc0 => ?_)
  have s0 : x.f0.size ≤ 1048576 := by omega
  have p0 : 0 ≤ left - (x.f0.size : Int) := by omega
  have e1 : wrap64 ((left - (x.f0.size : Int)) - (x.f1.size : Int)) = (left - (x.f0.size : Int)) - (x.f1.size : Int) := w64 (by omega) (by omega)
  simp only [e1]
  refine EvP.ite (fun hc => EvP.now ⟨by omega, fun h => by omega⟩) (fun hc1 => ?_)
  have s1 : x.f1.size ≤ 1048576 := by omega
  have p1 : 0 ≤ (left - (x.f0.size : Int)) - (x.f1.size : Int) := by omega
  refine EvP.bind (szS56 x.f3 g3 ((left - (x.f0.size : Int)) - (x.f1.size : Int)) (by omega) (by omega)) (fun r3 hr3 => ?_)
  refine EvP.ite (fun hc => EvP.now ⟨by omega, fun h => by omega⟩) (fun hc3 => ?_)
  have s3 := hr3.2 (by omega)
  exact EvP.now ⟨by omega, fun _ => ⟨s0, s1, trivial, s3⟩⟩
theorem to58 (x : S58) (hs : small58 x) : EvP (fun k => laws_toPanel.f k x.f0 x.f1 x.f2 x.f3) (fun r => r = ((conv58 x).f0, (conv58 x).f1, (conv58 x).f2, (conv58 x).f3)) := by
  unfold laws_toPanel.f
  obtain ⟨s0, s1, s2, s3⟩ := hs
  refine EvP.bind (toS56 x.f3 s3) (fun r3 hr3 => ?_)
  subst hr3
  exact EvP.now rfl
def smalli58 (x : S46) : Prop := x.f0.size ≤ 1048576 ∧ x.f1.size ≤ 1048576 ∧ True ∧ (x.f3.length ≤ 1048576 ∧ ∀ y ∈ x.f3, smalli75 y)
theorem eq58 (x : S46) (hs : smalli58 x) : EvP (fun k => laws_eqPanel.f k x.f0 x.f1 x.f2 x.f3 x.f0 x.f1 x.f2 x.f3) (fun r => r = true) := by
  unfold laws_eqPanel.f
  obtain ⟨s0, s1, s2, s3⟩ := hs
  refine EvP.pos rfl ?_
  refine EvP.pos rfl ?_
  refine EvP.pos rfl ?_
  refine EvP.bind (eqS56 x.f3 s3) (fun r3 hr3 => ?_)
  subst hr3
  refine EvP.pos rfl ?_
  exact EvP.now rfl
theorem small_conv58 (x : S58) (hs : small58 x) : smalli58 (conv58 x) := by
  obtain ⟨s0, s1, s2, s3⟩ := hs
  exact ⟨s0, s1, s2, small_convS56 x.f3 s3⟩
/-! lists of loop.example/g00039/laws.Panel -/
theorem szL23 (l : List (S58)) (hg : GoodL good58 l) : ∀ (d i : Nat) (left : Int), i + d = l.length → l.length ≤ 1048576 → 0 ≤ left → left ≤ 1048576 → (∀ j y, j < i → l[j]? = some y → small58 y) →
    EvP (fun k => laws_szPanelS.l0 k l left (i : Int)) (fun r => r ≤ left ∧ (0 ≤ r → ∀ y ∈ l, small58 y)) := by
  intro d
  induction d with
  | zero =>
    intro i left h hl h0 h1 hd
    refine EvP.step ?_
    simp only [laws_szPanelS.l0]
    refine EvP.neg (by omega) (EvP.now ⟨Int.le_refl _, fun _ y hy => ?_⟩)
    obtain ⟨j, hj⟩ := List.getElem?_of_mem hy
    exact hd j y (by have := (List.getElem?_eq_some_iff.1 hj).1; omega) hj
  | succ d ih =>
    intro i left h hl h0 h1 hd
    have hi : i < l.length := by omega
    refine EvP.step ?_
    simp only [laws_szPanelS.l0, wrap_succ hi hl, rdT58 l i hi]
    refine EvP.pos (by omega) (EvP.pos (by omega) ?_)
    refine EvP.bind (sz58 l[i] (hg.2 _ (List.getElem_mem _)) left h0 h1) (fun r hr => ?_)
    refine EvP.ite (fun hc => EvP.now ⟨by omega, fun h => by omega⟩) (fun hc => ?_)
    refine (ih (i + 1) r (by omega) hl (by omega) (by omega) (fun j y hj hy => ?_)).imp (fun q hq => ⟨by omega, hq.2⟩)
    · by_cases hji : j = i
      · subst hji
        rw [List.getElem?_eq_getElem hi] at hy
        obtain rfl := Option.some.inj hy
        exact hr.2 (by omega)
      · exact hd j y (by omega) hy
theorem szS23 (l : List (S58)) (hg : GoodL good58 l) (left : Int) (h0 : 0 ≤ left) (h1 : left ≤ 1048576) : EvP (fun k => laws_szPanelS.f k l left) (fun r => r ≤ left ∧ (0 ≤ r → (l.length ≤ 1048576 ∧ ∀ y ∈ l, small58 y))) := by
  have hl := hg.1
  unfold laws_szPanelS.f
  have e : wrap64 (left - (l.length : Int)) = left - (l.length : Int) := w64 (by omega) (by omega)
  simp only [e]
  refine EvP.ite (fun hc => EvP.now ⟨by omega, fun h => by omega⟩) (fun hc => ?_)
  exact (szL23 l hg l.length 0 _ (by omega) (by omega) (by omega) (by omega) (fun j y hj _ => by omega)).imp (fun r hr => ⟨by omega, fun h => ⟨by omega, hr.2 h⟩⟩)
theorem toL23 (l : List (S58)) (hs : (l.length ≤ 1048576 ∧ ∀ y ∈ l, small58 y)) : ∀ (d i : Nat) (acc : List (S46)), i + d = l.length → acc.length = l.length → acc.take i = (l.take i).map conv58 → EvP (fun k => laws_toPanelS.l0 k l acc (i : Int)) (fun r => r = l.map conv58) := by
  have hl := hs.1
  intro d
  induction d with
  | zero =>
    intro i acc h ha ht
    refine EvP.step ?_
    simp only [laws_toPanelS.l0]
    refine EvP.neg (by omega) (EvP.now ?_)
    obtain rfl : i = l.length := by omega
    exact take_all l _ acc ha ht
  | succ d ih =>
    intro i acc h ha ht
    have hi : i < l.length := by omega
    have hst := take_conv l conv58 acc i hi ha ht
    refine EvP.step ?_
    simp only [laws_toPanelS.l0, wrap_succ hi hl, rdT58 l i hi, Int.toNat_natCast]
    refine EvP.pos (by omega) (EvP.pos (by omega) ?_)
    refine EvP.bind (to58 l[i] (hs.2 _ (List.getElem_mem _))) (fun r hr => ?_)
    subst hr
    refine EvP.pos (by omega) ?_
    exact ih (i + 1) _ (by omega) hst.1 hst.2
theorem toS23 (l : List (S58)) (hs : (l.length ≤ 1048576 ∧ ∀ y ∈ l, small58 y)) : EvP (fun k => laws_toPanelS.f k l) (fun r => r = (l.map conv58)) := by
  have hl := hs.1
  unfold laws_toPanelS.f
  refine EvP.pos (by omega) (EvP.pos (by omega) ?_)
  refine (toL23 l hs l.length 0 _ (by omega) (by simp) (by simp)).imp (fun r hr => ?_)
  rw [hr]
theorem eqL23 (l : List (S46)) (hs : (l.length ≤ 1048576 ∧ ∀ y ∈ l, smalli58 y)) : ∀ (d i : Nat), i + d = l.length → EvP (fun k => laws_eqPanelS.l0 k l l (i : Int)) (fun r => r = true) := by
  have hl := hs.1
  intro d
  induction d with
  | zero =>
    intro i h
    refine EvP.step ?_
    simp only [laws_eqPanelS.l0]
    exact EvP.neg (by omega) (EvP.now rfl)
  | succ d ih =>
    intro i h
    have hi : i < l.length := by omega
    refine EvP.step ?_
    simp only [laws_eqPanelS.l0, wrap_succ hi hl, rdT46 l i hi]
    refine EvP.pos (by omega) (EvP.pos (by omega) (EvP.pos (by omega) ?_))
    refine EvP.bind (eq58 l[i] (hs.2 _ (List.getElem_mem _))) (fun r hr => ?_)
    subst hr
    refine EvP.pos rfl ?_
    exact ih (i + 1) (by omega)
theorem eqS23 (l : List (S46)) (hs : (l.length ≤ 1048576 ∧ ∀ y ∈ l, smalli58 y)) : EvP (fun k => laws_eqPanelS.f k l l) (fun r => r = true) := by
  unfold laws_eqPanelS.f
  simp only [if_true]
  exact eqL23 l hs l.length 0 (by omega)
theorem small_convS23 (l : List (S58)) (hs : (l.length ≤ 1048576 ∧ ∀ y ∈ l, small58 y)) : ((l.map conv58).length ≤ 1048576 ∧ ∀ y ∈ (l.map conv58), smalli58 y) := by
  refine ⟨by rw [List.length_map]; exact hs.1, fun y hy => ?_⟩
  obtain ⟨z, hz, rfl⟩ := List.mem_map.1 hy
  exact small_conv58 z (hs.2 z hz)
/-! loop.example/g00039/laws.Board -/
def small25 (x : S25) : Prop := (x.f0.length ≤ 1048576 ∧ ∀ y ∈ x.f0, small54 y) ∧ (x.f1.length ≤ 1048576 ∧ ∀ y ∈ x.f1, small58 y)
def conv25 (x : S25) : S31 := ⟨(x.f0.map conv54), (x.f1.map conv58)⟩
theorem sz25 (x : S25) (hg : good25 x) (left : Int) (h0 : 0 ≤ left) (h1 : left ≤ 1048576) : EvP (fun k => laws_szBoard.f k x.f0 x.f1 left) (fun r => r ≤ left ∧ (0 ≤ r → small25 x)) := by
  unfold laws_szBoard.f
  obtain ⟨g0, g1⟩ := hg
  refine EvP.bind (szS22 x.f0 g0 left (by omega) (by omega)) (fun r0 hr0 => ?_)
  refine EvP.ite (fun hc => EvP.now ⟨by omega, fun h => by omega⟩) (fun hc0 => ?_)
  have s0 := hr0.2 (by omega)
  refine EvP.bind (szS23 x.f1 g1 r0 (by omega) (by omega)) (fun r1 hr1 => ?_)
  refine EvP.ite (fun hc => EvP.now ⟨by omega, fun h => by omega⟩) (fun hc1 => ?_)
  have s1 := hr1.2 (by omega)
  exact EvP.now ⟨by omega, fun _ => ⟨s0, s1⟩⟩
theorem to25 (x : S25) (hs : small25 x) : EvP (fun k => laws_toBoard.f k x.f0 x.f1) (fun r => r = ((conv25 x).f0, (conv25 x).f1)) := by
  unfold laws_toBoard.f
  obtain ⟨s0, s1⟩ := hs
  refine EvP.bind (toS22 x.f0 s0) (fun r0 hr0 => ?_)
  subst hr0
  refine EvP.bind (toS23 x.f1 s1) (fun r1 hr1 => ?_)
  subst hr1
  exact EvP.now rfl
def smalli25 (x : S31) : Prop := (x.f0.length ≤ 1048576 ∧ ∀ y ∈ x.f0, smalli54 y) ∧ (x.f1.length ≤ 1048576 ∧ ∀ y ∈ x.f1, smalli58 y)
theorem eq25 (x : S31) (hs : smalli25 x) : EvP (fun k => laws_eqBoard.f k x.f0 x.f1 x.f0 x.f1) (fun r => r = true) := by
  unfold laws_eqBoard.f
  obtain ⟨s0, s1⟩ := hs
  refine EvP.bind (eqS22 x.f0 s0) (fun r0 hr0 => ?_)
  subst hr0
  refine EvP.pos rfl ?_
  refine EvP.bind (eqS23 x.f1 s1) (fun r1 hr1 => ?_)
  subst hr1
  refine EvP.pos rfl ?_
  exact EvP.now rfl
theorem small_conv25 (x : S25) (hs : small25 x) : smalli25 (conv25 x) := by
  obtain ⟨s0, s1⟩ := hs
  exact ⟨small_convS22 x.f0 s0, small_convS23 x.f1 s1⟩
end Go.Proofs.Ytcemokegafijnaa.BFnExactGoodBoard
