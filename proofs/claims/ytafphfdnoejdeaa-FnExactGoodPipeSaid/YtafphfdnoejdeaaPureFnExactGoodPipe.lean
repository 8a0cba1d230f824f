/- Parts of one claim's proof, put together (merge.py). -/
import Derived.Test.YtafphfdnoejdeaaGFnExactGoodPipe
import Derived.Test.YtafphfdnoejdeaaEv
import Derived.Test.YtafphfdnoejdeaaPFnExactGoodPipex11
import Derived.Test.YtafphfdnoejdeaaPFnExactGoodPipex12
import Derived.Test.YtafphfdnoejdeaaPFnExactGoodPipex13
import Derived.Test.YtafphfdnoejdeaaPFnExactGoodPipex3
import Derived.Test.YtafphfdnoejdeaaPFnExactGoodPipex4
import Derived.Test.YtafphfdnoejdeaaStgEq
import Derived.Test.YtafphfdnoejdeaaPFnExactGoodPipex14
/- What the law's own helpers compute (sizes, copies, comparisons). Written by a program of this repo's (plaingen.py). -/
namespace Go.Proofs.Ytafphfdnoejdeaa.BFnExactGoodPipe
open Go.RowKit Go.Proofs.Ytafphfdnoejdeaa.PFnExactGoodPipe Go.Proofs.YtafphfdnoejdeaaW.PrintWords Go.Proofs.YtafphfdnoejdeaaW.PrintLast Go.Proofs.Ytafphfdnoejdeaa.Opn Go.Proofs.Ytafphfdnoejdeaa.GFnExactGoodPipe Go.Proofs.Ytafphfdnoejdeaa.Evs
set_option linter.unusedVariables false
structure S25 where
 f0 : List (S50)
 f1 : List (S53)
def good25 (x : S25) : Prop := GoodL good50 x.f0 ∧ GoodL good53 x.f1
structure S31 where
 f0 : List (S39)
 f1 : List (S42)
/-! loop.example/g00039/laws.Matcher -/
def small50 (x : S50) : Prop := x.f0.size ≤ 1048576 ∧ True ∧ x.f2.size ≤ 1048576
def conv50 (x : S50) : S39 := ⟨x.f0, x.f1, x.f2⟩
theorem rdT50 (l : List S50) (i : Nat) (h : i < l.length) : rd_T50 l (i : Int) = l[i] := getD_get _ l i h
theorem rdT39 (l : List S39) (i : Nat) (h : i < l.length) : rd_T39 l (i : Int) = l[i] := getD_get _ l i h
theorem sz50 (x : S50) (hg : good50 x) (left : Int) (h0 : 0 ≤ left) (h1 : left ≤ 1048576) : EvP (fun k => laws_szMatcher.f x.f0 x.f1 x.f2 left) (fun r => r ≤ left ∧ (0 ≤ r → small50 x)) := by
 unfold laws_szMatcher.f
 obtain ⟨g0, g1, g2⟩ := hg
 have e0 : wrap64 (left - (x.f0.size : Int)) = left - (x.f0.size : Int) := Evs.w64 (by omega) (by omega)
 simp only [e0]
 refine EvP.ite (fun hc => EvP.now ⟨by omega, fun h => by omega⟩) (fun hc0 => ?_)
 have s0 : x.f0.size ≤ 1048576 := by omega
 have p0 : 0 ≤ left - (x.f0.size : Int) := by omega
 have e2 : wrap64 ((left - (x.f0.size : Int)) - (x.f2.size : Int)) = (left - (x.f0.size : Int)) - (x.f2.size : Int) := Evs.w64 (by omega) (by omega)
 simp only [e2]
 refine EvP.ite (fun hc => EvP.now ⟨by omega, fun h => by omega⟩) (fun hc2 => ?_)
 have s2 : x.f2.size ≤ 1048576 := by omega
 have p2 : 0 ≤ (left - (x.f0.size : Int)) - (x.f2.size : Int) := by omega
 exact EvP.now ⟨by omega, fun _ => ⟨s0, trivial, s2⟩⟩
theorem to50 (x : S50) (hs : small50 x) : EvP (fun k => laws_toMatcher.f x.f0 x.f1 x.f2) (fun r => r = ((conv50 x).f0, (conv50 x).f1, (conv50 x).f2)) := by
 unfold laws_toMatcher.f
 obtain ⟨s0, s1, s2⟩ := hs
 exact EvP.now rfl
def smalli50 (x : S39) : Prop := x.f0.size ≤ 1048576 ∧ True ∧ x.f2.size ≤ 1048576
theorem eq50 (x : S39) (hs : smalli50 x) : EvP (fun k => laws_eqMatcher.f x.f0 x.f1 x.f2 x.f0 x.f1 x.f2) (fun r => r = true) := by
 unfold laws_eqMatcher.f
 obtain ⟨s0, s1, s2⟩ := hs
 refine EvP.pos rfl ?_
 refine EvP.pos rfl ?_
 refine EvP.pos rfl ?_
 exact EvP.now rfl
theorem small_conv50 (x : S50) (hs : small50 x) : smalli50 (conv50 x) := by
 obtain ⟨s0, s1, s2⟩ := hs
 exact ⟨s0, s1, s2⟩
/-! lists of loop.example/g00039/laws.Matcher -/
theorem szL22 (l : List (S50)) (hg : GoodL good50 l) : ∀ (d i : Nat) (left : Int), i + d = l.length → l.length ≤ 1048576 → 0 ≤ left → left ≤ 1048576 → (∀ j y, j < i → l[j]? = some y → small50 y) →
  EvP (fun k => laws_szMatcherS.l0 k l left (i : Int)) (fun r => r ≤ left ∧ (0 ≤ r → ∀ y ∈ l, small50 y)) := by
 intro d
 induction d with
 | zero =>
  intro i left h hl h0 h1 hd
  refine EvP.step ?_
  simp only [laws_szMatcherS.l0]
  refine EvP.neg (by omega) (EvP.now ⟨Int.le_refl _, fun _ y hy => ?_⟩)
  obtain ⟨j, hj⟩ := List.getElem?_of_mem hy
  exact hd j y (by have := (List.getElem?_eq_some_iff.1 hj).1; omega) hj
 | succ d ih =>
  intro i left h hl h0 h1 hd
  have hi : i < l.length := by omega
  refine EvP.step ?_
  simp only [laws_szMatcherS.l0, wrap_succ hi hl, rdT50 l i hi]
  refine EvP.pos (by omega) (EvP.pos (by omega) ?_)
  refine EvP.bind (sz50 l[i] (hg.2 _ (List.getElem_mem _)) left h0 h1) (fun r hr => ?_)
  refine EvP.ite (fun hc => EvP.now ⟨by omega, fun h => by omega⟩) (fun hc => ?_)
  refine (ih (i + 1) r (by omega) hl (by omega) (by omega) (fun j y hj hy => ?_)).imp (fun q hq => ⟨by omega, hq.2⟩)
  ·by_cases hji : j = i
   ·subst hji
    rw [List.getElem?_eq_getElem hi] at hy
    obtain rfl := Option.some.inj hy
    exact hr.2 (by omega)
   ·exact hd j y (by omega) hy
theorem szS22 (l : List (S50)) (hg : GoodL good50 l) (left : Int) (h0 : 0 ≤ left) (h1 : left ≤ 1048576) : EvP (fun k => laws_szMatcherS.f k l left) (fun r => r ≤ left ∧ (0 ≤ r → (l.length ≤ 1048576 ∧ ∀ y ∈ l, small50 y))) := by
 have hl := hg.1
 unfold laws_szMatcherS.f
 have e : wrap64 (left - (l.length : Int)) = left - (l.length : Int) := Evs.w64 (by omega) (by omega)
 simp only [e]
 refine EvP.ite (fun hc => EvP.now ⟨by omega, fun h => by omega⟩) (fun hc => ?_)
 exact (szL22 l hg l.length 0 _ (by omega) (by omega) (by omega) (by omega) (fun j y hj _ => by omega)).imp (fun r hr => ⟨by omega, fun h => ⟨by omega, hr.2 h⟩⟩)
theorem toL22 (l : List (S50)) (hs : (l.length ≤ 1048576 ∧ ∀ y ∈ l, small50 y)) : ∀ (d i : Nat) (acc : List (S39)), i + d = l.length → acc.length = l.length → acc.take i = (l.take i).map conv50 → EvP (fun k => laws_toMatcherS.l0 k l acc (i : Int)) (fun r => r = l.map conv50) := by
 have hl := hs.1
 intro d
 induction d with
 | zero =>
  intro i acc h ha ht
  refine EvP.step ?_
  simp only [laws_toMatcherS.l0]
  refine EvP.neg (by omega) (EvP.now ?_)
  obtain rfl : i = l.length := by omega
  exact take_all l _ acc ha ht
 | succ d ih =>
  intro i acc h ha ht
  have hi : i < l.length := by omega
  have hst := take_conv l conv50 acc i hi ha ht
  refine EvP.step ?_
  simp only [laws_toMatcherS.l0, wrap_succ hi hl, rdT50 l i hi, Int.toNat_natCast]
  refine EvP.pos (by omega) (EvP.pos (by omega) ?_)
  refine EvP.bind (to50 l[i] (hs.2 _ (List.getElem_mem _))) (fun r hr => ?_)
  subst hr
  refine EvP.pos (by omega) ?_
  exact ih (i + 1) _ (by omega) hst.1 hst.2
theorem toS22 (l : List (S50)) (hs : (l.length ≤ 1048576 ∧ ∀ y ∈ l, small50 y)) : EvP (fun k => laws_toMatcherS.f k l) (fun r => r = (l.map conv50)) := by
 have hl := hs.1
 unfold laws_toMatcherS.f
 refine EvP.pos (by omega) (EvP.pos (by omega) ?_)
 refine (toL22 l hs l.length 0 _ (by omega) (by simp) (by simp)).imp (fun r hr => ?_)
 rw [hr]
theorem eqL22 (l : List (S39)) (hs : (l.length ≤ 1048576 ∧ ∀ y ∈ l, smalli50 y)) : ∀ (d i : Nat), i + d = l.length → EvP (fun k => laws_eqMatcherS.l0 k l l (i : Int)) (fun r => r = true) := by
 have hl := hs.1
 intro d
 induction d with
 | zero =>
  intro i h
  refine EvP.step ?_
  simp only [laws_eqMatcherS.l0]
  exact EvP.neg (by omega) (EvP.now rfl)
 | succ d ih =>
  intro i h
  have hi : i < l.length := by omega
  refine EvP.step ?_
  simp only [laws_eqMatcherS.l0, wrap_succ hi hl, rdT39 l i hi]
  refine EvP.pos (by omega) (EvP.pos (by omega) (EvP.pos (by omega) ?_))
  refine EvP.bind (eq50 l[i] (hs.2 _ (List.getElem_mem _))) (fun r hr => ?_)
  subst hr
  refine EvP.pos rfl ?_
  exact ih (i + 1) (by omega)
theorem eqS22 (l : List (S39)) (hs : (l.length ≤ 1048576 ∧ ∀ y ∈ l, smalli50 y)) : EvP (fun k => laws_eqMatcherS.f k l l) (fun r => r = true) := by
 unfold laws_eqMatcherS.f
 simp only [if_true]
 exact eqL22 l hs l.length 0 (by omega)
theorem small_convS22 (l : List (S50)) (hs : (l.length ≤ 1048576 ∧ ∀ y ∈ l, small50 y)) : ((l.map conv50).length ≤ 1048576 ∧ ∀ y ∈ (l.map conv50), smalli50 y) := by
 refine ⟨by rw [List.length_map]; exact hs.1, fun y hy => ?_⟩
 obtain ⟨z, hz, rfl⟩ := List.mem_map.1 hy
 exact small_conv50 z (hs.2 z hz)
/-! lists of string -/
theorem szL40 (l : List (ByteArray)) (hg : GoodL (fun x => x.size ≤ 9223372036854775807) l) : ∀ (d i : Nat) (left : Int), i + d = l.length → l.length ≤ 1048576 → 0 ≤ left → left ≤ 1048576 → (∀ j y, j < i → l[j]? = some y → y.size ≤ 1048576) →
  EvP (fun k => laws_szStringS.l0 k l left (i : Int)) (fun r => r ≤ left ∧ (0 ≤ r → ∀ y ∈ l, y.size ≤ 1048576)) := by
 intro d
 induction d with
 | zero =>
  intro i left h hl h0 h1 hd
  refine EvP.step ?_
  simp only [laws_szStringS.l0]
  refine EvP.neg (by omega) (EvP.now ⟨Int.le_refl _, fun _ y hy => ?_⟩)
  obtain ⟨j, hj⟩ := List.getElem?_of_mem hy
  exact hd j y (by have := (List.getElem?_eq_some_iff.1 hj).1; omega) hj
 | succ d ih =>
  intro i left h hl h0 h1 hd
  have hi : i < l.length := by omega
  refine EvP.step ?_
  simp only [laws_szStringS.l0, wrap_succ hi hl, rdOf_get _ l i hi]
  refine EvP.pos (by omega) (EvP.pos (by omega) ?_)
  have gs := hg.2 _ (List.getElem_mem hi)
  have e : wrap64 (left - (l[i].size : Int)) = left - (l[i].size : Int) := Evs.w64 (by omega) (by omega)
  simp only [e]
  refine EvP.ite (fun hc => EvP.now ⟨by omega, fun h => by omega⟩) (fun hc => ?_)
  refine (ih (i + 1) (left - (l[i].size : Int)) (by omega) hl (by omega) (by omega) (fun j y hj hy => ?_)).imp (fun q hq => ⟨by omega, hq.2⟩)
  ·by_cases hji : j = i
   ·subst hji
    rw [List.getElem?_eq_getElem hi] at hy
    obtain rfl := Option.some.inj hy
    omega
   ·exact hd j y (by omega) hy
theorem szS40 (l : List (ByteArray)) (hg : GoodL (fun x => x.size ≤ 9223372036854775807) l) (left : Int) (h0 : 0 ≤ left) (h1 : left ≤ 1048576) : EvP (fun k => laws_szStringS.f k l left) (fun r => r ≤ left ∧ (0 ≤ r → (l.length ≤ 1048576 ∧ ∀ y ∈ l, y.size ≤ 1048576))) := by
 have hl := hg.1
 unfold laws_szStringS.f
 have e : wrap64 (left - (l.length : Int)) = left - (l.length : Int) := Evs.w64 (by omega) (by omega)
 simp only [e]
 refine EvP.ite (fun hc => EvP.now ⟨by omega, fun h => by omega⟩) (fun hc => ?_)
 exact (szL40 l hg l.length 0 _ (by omega) (by omega) (by omega) (by omega) (fun j y hj _ => by omega)).imp (fun r hr => ⟨by omega, fun h => ⟨by omega, hr.2 h⟩⟩)
theorem toL40 (l : List (ByteArray)) (hs : (l.length ≤ 1048576 ∧ ∀ y ∈ l, y.size ≤ 1048576)) : ∀ (d i : Nat) (acc : List (ByteArray)), i + d = l.length → acc.length = l.length → acc.take i = (l.take i).map (fun y => y) → EvP (fun k => laws_toStringS.l0 k l acc (i : Int)) (fun r => r = l.map (fun y => y)) := by
 have hl := hs.1
 intro d
 induction d with
 | zero =>
  intro i acc h ha ht
  refine EvP.step ?_
  simp only [laws_toStringS.l0]
  refine EvP.neg (by omega) (EvP.now ?_)
  obtain rfl : i = l.length := by omega
  exact take_all l _ acc ha ht
 | succ d ih =>
  intro i acc h ha ht
  have hi : i < l.length := by omega
  have hst := take_conv l (fun y => y) acc i hi ha ht
  refine EvP.step ?_
  simp only [laws_toStringS.l0, wrap_succ hi hl, rdOf_get _ l i hi, Int.toNat_natCast]
  refine EvP.pos (by omega) (EvP.pos (by omega) ?_)
  refine EvP.pos (by omega) ?_
  exact ih (i + 1) _ (by omega) hst.1 hst.2
theorem toS40 (l : List (ByteArray)) (hs : (l.length ≤ 1048576 ∧ ∀ y ∈ l, y.size ≤ 1048576)) : EvP (fun k => laws_toStringS.f k l) (fun r => r = l) := by
 have hl := hs.1
 unfold laws_toStringS.f
 refine EvP.pos (by omega) (EvP.pos (by omega) ?_)
 refine (toL40 l hs l.length 0 _ (by omega) (by simp) (by simp)).imp (fun r hr => ?_)
 rw [hr]
 simp
theorem eqL40 (l : List (ByteArray)) (hs : (l.length ≤ 1048576 ∧ ∀ y ∈ l, y.size ≤ 1048576)) : ∀ (d i : Nat), i + d = l.length → EvP (fun k => laws_eqStringS.l0 k l l (i : Int)) (fun r => r = true) := by
 have hl := hs.1
 intro d
 induction d with
 | zero =>
  intro i h
  refine EvP.step ?_
  simp only [laws_eqStringS.l0]
  exact EvP.neg (by omega) (EvP.now rfl)
 | succ d ih =>
  intro i h
  have hi : i < l.length := by omega
  refine EvP.step ?_
  simp only [laws_eqStringS.l0, wrap_succ hi hl, rdOf_get _ l i hi]
  refine EvP.pos (by omega) (EvP.pos (by omega) (EvP.pos (by omega) ?_))
  first | (simp only [if_true]) | (refine EvP.pos rfl ?_) | (refine EvP.neg (by simp) ?_)
  exact ih (i + 1) (by omega)
theorem eqS40 (l : List (ByteArray)) (hs : (l.length ≤ 1048576 ∧ ∀ y ∈ l, y.size ≤ 1048576)) : EvP (fun k => laws_eqStringS.f k l l) (fun r => r = true) := by
 unfold laws_eqStringS.f
 simp only [if_true]
 exact eqL40 l hs l.length 0 (by omega)
/-! loop.example/g00039/laws.Stage -/
def small53 (x : S53) : Prop := True ∧ x.f1.size ≤ 1048576 ∧ small50 x.f2 ∧ True ∧ True ∧ (x.f5.length ≤ 1048576 ∧ ∀ y ∈ x.f5, y.size ≤ 1048576)
def conv53 (x : S53) : S42 := ⟨x.f0, x.f1, (conv50 x.f2), x.f3, x.f4, x.f5⟩
theorem rdT53 (l : List S53) (i : Nat) (h : i < l.length) : rd_T53 l (i : Int) = l[i] := getD_get _ l i h
theorem rdT42 (l : List S42) (i : Nat) (h : i < l.length) : rd_T42 l (i : Int) = l[i] := getD_get _ l i h
theorem sz53 (x : S53) (hg : good53 x) (left : Int) (h0 : 0 ≤ left) (h1 : left ≤ 1048576) : EvP (fun k => laws_szStage.f k x.f0 x.f1 x.f2.f0 x.f2.f1 x.f2.f2 x.f3 x.f4 x.f5 left) (fun r => r ≤ left ∧ (0 ≤ r → small53 x)) := by
 unfold laws_szStage.f
 obtain ⟨g0, g1, g2, g3, g4, g5⟩ := hg
 have e1 : wrap64 (left - (x.f1.size : Int)) = left - (x.f1.size : Int) := Evs.w64 (by omega) (by omega)
 simp only [e1]
 refine EvP.ite (fun hc => EvP.now ⟨by omega, fun h => by omega⟩) (fun hc1 => ?_)
 have s1 : x.f1.size ≤ 1048576 := by omega
 have p1 : 0 ≤ left - (x.f1.size : Int) := by omega
 refine EvP.bind (sz50 x.f2 g2 (left - (x.f1.size : Int)) (by omega) (by omega)) (fun r2 hr2 => ?_)
 refine EvP.ite (fun hc => EvP.now ⟨by omega, fun h => by omega⟩) (fun hc2 => ?_)
 have s2 := hr2.2 (by omega)
 refine EvP.bind (szS40 x.f5 g5 r2 (by omega) (by omega)) (fun r5 hr5 => ?_)
 refine EvP.ite (fun hc => EvP.now ⟨by omega, fun h => by omega⟩) (fun hc5 => ?_)
 have s5 := hr5.2 (by omega)
 exact EvP.now ⟨by omega, fun _ => ⟨trivial, s1, s2, trivial, trivial, s5⟩⟩
theorem to53 (x : S53) (hs : small53 x) : EvP (fun k => laws_toStage.f k x.f0 x.f1 x.f2.f0 x.f2.f1 x.f2.f2 x.f3 x.f4 x.f5) (fun r => r = ((conv53 x).f0, (conv53 x).f1, (conv53 x).f2.f0, (conv53 x).f2.f1, (conv53 x).f2.f2, (conv53 x).f3, (conv53 x).f4, (conv53 x).f5)) := by
 unfold laws_toStage.f
 obtain ⟨s0, s1, s2, s3, s4, s5⟩ := hs
 refine EvP.bind (to50 x.f2 s2) (fun r2 hr2 => ?_)
 subst hr2
 refine EvP.bind (toS40 x.f5 s5) (fun r5 hr5 => ?_)
 subst hr5
 exact EvP.now rfl
def smalli53 (x : S42) : Prop := True ∧ x.f1.size ≤ 1048576 ∧ smalli50 x.f2 ∧ True ∧ True ∧ (x.f5.length ≤ 1048576 ∧ ∀ y ∈ x.f5, y.size ≤ 1048576)
theorem eq53 (x : S42) (hs : smalli53 x) : EvP (fun k => laws_eqStage.f k x.f0 x.f1 x.f2.f0 x.f2.f1 x.f2.f2 x.f3 x.f4 x.f5 x.f0 x.f1 x.f2.f0 x.f2.f1 x.f2.f2 x.f3 x.f4 x.f5) (fun r => r = true) := by
 unfold laws_eqStage.f
 obtain ⟨s0, s1, s2, s3, s4, s5⟩ := hs
 refine EvP.pos rfl ?_
 refine EvP.pos rfl ?_
 refine EvP.bind (eq50 x.f2 s2) (fun r2 hr2 => ?_)
 subst hr2
 refine EvP.pos rfl ?_
 refine EvP.pos rfl ?_
 refine EvP.pos rfl ?_
 refine EvP.bind (eqS40 x.f5 s5) (fun r5 hr5 => ?_)
 subst hr5
 refine EvP.pos rfl ?_
 exact EvP.now rfl
theorem small_conv53 (x : S53) (hs : small53 x) : smalli53 (conv53 x) := by
 obtain ⟨s0, s1, s2, s3, s4, s5⟩ := hs
 exact ⟨s0, s1, small_conv50 x.f2 s2, s3, s4, s5⟩
/-! lists of loop.example/g00039/laws.Stage -/
theorem szL23 (l : List (S53)) (hg : GoodL good53 l) : ∀ (d i : Nat) (left : Int), i + d = l.length → l.length ≤ 1048576 → 0 ≤ left → left ≤ 1048576 → (∀ j y, j < i → l[j]? = some y → small53 y) →
  EvP (fun k => laws_szStageS.l0 k l left (i : Int)) (fun r => r ≤ left ∧ (0 ≤ r → ∀ y ∈ l, small53 y)) := by
 intro d
 induction d with
 | zero =>
  intro i left h hl h0 h1 hd
  refine EvP.step ?_
  simp only [laws_szStageS.l0]
  refine EvP.neg (by omega) (EvP.now ⟨Int.le_refl _, fun _ y hy => ?_⟩)
  obtain ⟨j, hj⟩ := List.getElem?_of_mem hy
  exact hd j y (by have := (List.getElem?_eq_some_iff.1 hj).1; omega) hj
 | succ d ih =>
  intro i left h hl h0 h1 hd
  have hi : i < l.length := by omega
  refine EvP.step ?_
  simp only [laws_szStageS.l0, wrap_succ hi hl, rdT53 l i hi]
  refine EvP.pos (by omega) (EvP.pos (by omega) ?_)
  refine EvP.bind (sz53 l[i] (hg.2 _ (List.getElem_mem _)) left h0 h1) (fun r hr => ?_)
  refine EvP.ite (fun hc => EvP.now ⟨by omega, fun h => by omega⟩) (fun hc => ?_)
  refine (ih (i + 1) r (by omega) hl (by omega) (by omega) (fun j y hj hy => ?_)).imp (fun q hq => ⟨by omega, hq.2⟩)
  ·by_cases hji : j = i
   ·subst hji
    rw [List.getElem?_eq_getElem hi] at hy
    obtain rfl := Option.some.inj hy
    exact hr.2 (by omega)
   ·exact hd j y (by omega) hy
theorem szS23 (l : List (S53)) (hg : GoodL good53 l) (left : Int) (h0 : 0 ≤ left) (h1 : left ≤ 1048576) : EvP (fun k => laws_szStageS.f k l left) (fun r => r ≤ left ∧ (0 ≤ r → (l.length ≤ 1048576 ∧ ∀ y ∈ l, small53 y))) := by
 have hl := hg.1
 unfold laws_szStageS.f
 have e : wrap64 (left - (l.length : Int)) = left - (l.length : Int) := Evs.w64 (by omega) (by omega)
 simp only [e]
 refine EvP.ite (fun hc => EvP.now ⟨by omega, fun h => by omega⟩) (fun hc => ?_)
 exact (szL23 l hg l.length 0 _ (by omega) (by omega) (by omega) (by omega) (fun j y hj _ => by omega)).imp (fun r hr => ⟨by omega, fun h => ⟨by omega, hr.2 h⟩⟩)
theorem toL23 (l : List (S53)) (hs : (l.length ≤ 1048576 ∧ ∀ y ∈ l, small53 y)) : ∀ (d i : Nat) (acc : List (S42)), i + d = l.length → acc.length = l.length → acc.take i = (l.take i).map conv53 → EvP (fun k => laws_toStageS.l0 k l acc (i : Int)) (fun r => r = l.map conv53) := by
 have hl := hs.1
 intro d
 induction d with
 | zero =>
  intro i acc h ha ht
  refine EvP.step ?_
  simp only [laws_toStageS.l0]
  refine EvP.neg (by omega) (EvP.now ?_)
  obtain rfl : i = l.length := by omega
  exact take_all l _ acc ha ht
 | succ d ih =>
  intro i acc h ha ht
  have hi : i < l.length := by omega
  have hst := take_conv l conv53 acc i hi ha ht
  refine EvP.step ?_
  simp only [laws_toStageS.l0, wrap_succ hi hl, rdT53 l i hi, Int.toNat_natCast]
  refine EvP.pos (by omega) (EvP.pos (by omega) ?_)
  refine EvP.bind (to53 l[i] (hs.2 _ (List.getElem_mem _))) (fun r hr => ?_)
  subst hr
  refine EvP.pos (by omega) ?_
  exact ih (i + 1) _ (by omega) hst.1 hst.2
theorem toS23 (l : List (S53)) (hs : (l.length ≤ 1048576 ∧ ∀ y ∈ l, small53 y)) : EvP (fun k => laws_toStageS.f k l) (fun r => r = (l.map conv53)) := by
 have hl := hs.1
 unfold laws_toStageS.f
 refine EvP.pos (by omega) (EvP.pos (by omega) ?_)
 refine (toL23 l hs l.length 0 _ (by omega) (by simp) (by simp)).imp (fun r hr => ?_)
 rw [hr]
theorem eqL23 (l : List (S42)) (hs : (l.length ≤ 1048576 ∧ ∀ y ∈ l, smalli53 y)) : ∀ (d i : Nat), i + d = l.length → EvP (fun k => laws_eqStageS.l0 k l l (i : Int)) (fun r => r = true) := by
 have hl := hs.1
 intro d
 induction d with
 | zero =>
  intro i h
  refine EvP.step ?_
  simp only [laws_eqStageS.l0]
  exact EvP.neg (by omega) (EvP.now rfl)
 | succ d ih =>
  intro i h
  have hi : i < l.length := by omega
  refine EvP.step ?_
  simp only [laws_eqStageS.l0, wrap_succ hi hl, rdT42 l i hi]
  refine EvP.pos (by omega) (EvP.pos (by omega) (EvP.pos (by omega) ?_))
  refine EvP.bind (eq53 l[i] (hs.2 _ (List.getElem_mem _))) (fun r hr => ?_)
  subst hr
  refine EvP.pos rfl ?_
  exact ih (i + 1) (by omega)
theorem eqS23 (l : List (S42)) (hs : (l.length ≤ 1048576 ∧ ∀ y ∈ l, smalli53 y)) : EvP (fun k => laws_eqStageS.f k l l) (fun r => r = true) := by
 unfold laws_eqStageS.f
 simp only [if_true]
 exact eqL23 l hs l.length 0 (by omega)
theorem small_convS23 (l : List (S53)) (hs : (l.length ≤ 1048576 ∧ ∀ y ∈ l, small53 y)) : ((l.map conv53).length ≤ 1048576 ∧ ∀ y ∈ (l.map conv53), smalli53 y) := by
 refine ⟨by rw [List.length_map]; exact hs.1, fun y hy => ?_⟩
 obtain ⟨z, hz, rfl⟩ := List.mem_map.1 hy
 exact small_conv53 z (hs.2 z hz)
/-! loop.example/g00039/laws.Pipe -/
def small25 (x : S25) : Prop := (x.f0.length ≤ 1048576 ∧ ∀ y ∈ x.f0, small50 y) ∧ (x.f1.length ≤ 1048576 ∧ ∀ y ∈ x.f1, small53 y)
def conv25 (x : S25) : S31 := ⟨(x.f0.map conv50), (x.f1.map conv53)⟩
theorem sz25 (x : S25) (hg : good25 x) (left : Int) (h0 : 0 ≤ left) (h1 : left ≤ 1048576) : EvP (fun k => laws_szPipe.f k x.f0 x.f1 left) (fun r => r ≤ left ∧ (0 ≤ r → small25 x)) := by
 unfold laws_szPipe.f
 obtain ⟨g0, g1⟩ := hg
 refine EvP.bind (szS22 x.f0 g0 left (by omega) (by omega)) (fun r0 hr0 => ?_)
 refine EvP.ite (fun hc => EvP.now ⟨by omega, fun h => by omega⟩) (fun hc0 => ?_)
 have s0 := hr0.2 (by omega)
 refine EvP.bind (szS23 x.f1 g1 r0 (by omega) (by omega)) (fun r1 hr1 => ?_)
 refine EvP.ite (fun hc => EvP.now ⟨by omega, fun h => by omega⟩) (fun hc1 => ?_)
 have s1 := hr1.2 (by omega)
 exact EvP.now ⟨by omega, fun _ => ⟨s0, s1⟩⟩
theorem to25 (x : S25) (hs : small25 x) : EvP (fun k => laws_toPipe.f k x.f0 x.f1) (fun r => r = ((conv25 x).f0, (conv25 x).f1)) := by
 unfold laws_toPipe.f
 obtain ⟨s0, s1⟩ := hs
 refine EvP.bind (toS22 x.f0 s0) (fun r0 hr0 => ?_)
 subst hr0
 refine EvP.bind (toS23 x.f1 s1) (fun r1 hr1 => ?_)
 subst hr1
 exact EvP.now rfl
def smalli25 (x : S31) : Prop := (x.f0.length ≤ 1048576 ∧ ∀ y ∈ x.f0, smalli50 y) ∧ (x.f1.length ≤ 1048576 ∧ ∀ y ∈ x.f1, smalli53 y)
theorem eq25 (x : S31) (hs : smalli25 x) : EvP (fun k => laws_eqPipe.f k x.f0 x.f1 x.f0 x.f1) (fun r => r = true) := by
 unfold laws_eqPipe.f
 obtain ⟨s0, s1⟩ := hs
 refine EvP.bind (eqS22 x.f0 s0) (fun r0 hr0 => ?_)
 subst hr0
 refine EvP.pos rfl ?_
 refine EvP.bind (eqS23 x.f1 s1) (fun r1 hr1 => ?_)
 subst hr1
 refine EvP.pos rfl ?_
 exact EvP.now rfl
theorem small_conv25 (x : S25) (hs : small25 x) : smalli25 (conv25 x) := by
 obtain ⟨s0, s1⟩ := hs
 exact ⟨small_convS22 x.f0 s0, small_convS23 x.f1 s1⟩
end Go.Proofs.Ytafphfdnoejdeaa.BFnExactGoodPipe
/- The program's GoodPipe returns what the reference's returns, for every pipe. No further condition. -/
namespace Go.Proofs.Ytafphfdnoejdeaa.PureFnExactGoodPipe
open Go.RowKit Go.Proofs.Ytafphfdnoejdeaa.PFnExactGoodPipe Go.Proofs.YtafphfdnoejdeaaW.PrintWords Go.Proofs.YtafphfdnoejdeaaW.PrintLast Go.Proofs.Ytafphfdnoejdeaa.Opn Go.Proofs.Ytafphfdnoejdeaa.GFnExactGoodPipe Go.Proofs.Ytafphfdnoejdeaa.Evs Go.Proofs.Ytafphfdnoejdeaa.AFnExactGoodPipe Go.Proofs.Ytafphfdnoejdeaa.BFnExactGoodPipe Go.Proofs.Ytafphfdnoejdeaa.PrtFnExactGoodPipe Go.Proofs.Ytafphfdnoejdeaa.MatFnExactGoodPipe Go.Proofs.Ytafphfdnoejdeaa.NamFnExactGoodPipe Go.Proofs.Ytafphfdnoejdeaa.StgEq
abbrev SSt := S42
def stB (x : SSt) : Bool := stageB x.f0 x.f1 x.f2.f0 x.f2.f1 x.f2.f2 x.f3 x.f4 x.f5
def pipeB (m : List SMt) (s : List SSt) : Bool := matsB m && (decide (s.length ≤ 20) && s.all stB)
theorem specPipe_loop (l : List SSt) (hl : l.length ≤ 1048576) (hs : ∀ x ∈ l, x.f5.length ≤ 1048576) : ∀ (d i : Nat), i + d = l.length → EvP (fun k => spec_GoodPipe.l0 k l (l.length : Int) (i : Int)) (fun r => r = (l.drop i).all stB) := by
 intro d
 induction d with
 | zero =>
  intro i h
  refine EvP.step ?_
  simp only [spec_GoodPipe.l0]
  refine EvP.neg (by omega) (EvP.now ?_)
  rw [List.drop_of_length_le (by omega)]; rfl
 | succ d ih =>
  intro i h
  have hi : i < l.length := by omega
  have hn := ih (i + 1) (by omega)
  refine EvP.step ?_
  have hget : rd_T42 l (i : Int) = l[i] := getD_get _ l i hi
  simp only [spec_GoodPipe.l0, wrap_succ hi hl, hget]
  rw [List.drop_eq_getElem_cons hi, List.all_cons]
  have hx := hs l[i] (List.getElem_mem ..)
  generalize l[i] = x at hx
  refine EvP.pos (by omega) (EvP.pos (by omega) (EvP.pos (by omega) ?_))
  refine EvP.bind (specStage_ev x.f0 x.f1 x.f2.f0 x.f2.f1 x.f2.f2 x.f3 x.f4 x.f5 hx) (fun t e => ?_)
  have e : t = stB x := e
  subst e
  cases stB x with
  | true => exact EvP.pos rfl (by rw [Bool.true_and]; exact hn)
  | false => exact EvP.neg (by decide) (EvP.now rfl)
theorem specPipe_ev (m : List SMt) (s : List SSt) (hm : m.length ≤ 1048576) (hl : s.length ≤ 1048576) (hs : ∀ x ∈ s, x.f5.length ≤ 1048576) : EvP (fun k => spec_GoodPipe.f k m s) (fun r => r = pipeB m s) := by
 have bad : EvP (fun k => spec_GoodPipe.j0 k true m s) (fun r => r = false) := EvP.step (by simp only [spec_GoodPipe.j0]; exact EvP.pos (by first | rfl | trivial) (EvP.now rfl))
 unfold spec_GoodPipe.f pipeB
 refine EvP.bind (specMats_ev m hm) (fun t e => ?_)
 subst e
 cases matsB m with
 | false => exact EvP.neg (by decide) bad
 | true =>
  refine EvP.pos rfl ?_
  by_cases h : s.length ≤ 20
  ·rw [decide_eq_false (by omega : ¬ (s.length : Int) > 20), decide_eq_true h]
   refine EvP.step ?_
   simp only [spec_GoodPipe.j0]
   exact EvP.neg (by decide) (specPipe_loop s hl hs s.length 0 (by omega))
  ·rw [decide_eq_true (by omega : (s.length : Int) > 20), decide_eq_false h]
   exact bad
theorem implPipe_ev (m : List SMt) (s : List SSt) (hs : ∀ x ∈ s, x.f5.length ≤ 1048576) : EvP (fun k => impl_GoodPipe.f k m s) (fun r => r = pipeB m s) := by
 unfold impl_GoodPipe.f pipeB
 refine EvP.bind (implMats_ev m) (fun t e => ?_)
 subst e
 cases matsB m with
 | false => exact EvP.neg (by decide) (EvP.now rfl)
 | true =>
  refine EvP.pos rfl ?_
  refine EvP.ite (fun h => ?_) (fun h => EvP.now (by rw [decide_eq_false (by omega)]; rfl))
  rw [decide_eq_true (by omega : s.length ≤ 20), Bool.true_and, Bool.true_and]
  refine EvP.bind (P := fun r => r = s.any (fun x => !stB x)) ?_ (fun t e => EvP.now (by rw [e, any_not, Bool.not_not]))
  exact anyM_ev s (fun x hx => EvP.bind (implStage_ev x.f0 x.f1 x.f2.f0 x.f2.f1 x.f2.f2 x.f3 x.f4 x.f5 (hs x hx)) (fun t e => EvP.now (by rw [e]; rfl)))
abbrev G0 := S25
theorem law (m : List S50) (gm : GoodL good50 m) (s : List S53) (gs : GoodL good53 s) : ∃ k, laws_FnExactGoodPipe.f k m s = some true := by
 refine EvP.rounds ?_
 unfold laws_FnExactGoodPipe.f
 refine EvP.bind (sz25 ⟨m, s⟩ ⟨gm, gs⟩ 1048576 (by omega) (by omega)) (fun r hr => ?_)
 refine EvP.ite (fun hc => EvP.now rfl) (fun hc => ?_)
 have hs := hr.2 (by omega)
 have hto := to25 ⟨m, s⟩ hs
 have hsi := small_conv25 _ hs
 generalize conv25 ⟨m, s⟩ = q at hto hsi
 refine EvP.bind hto (fun t e => ?_)
 subst e
 have h5 : ∀ x ∈ q.f1, x.f5.length ≤ 1048576 := fun x hx => by
  have h := hsi.2.2 x hx
  exact h.2.2.2.2.2.1
 refine EvP.bind (specPipe_ev q.f0 q.f1 hsi.1.1 hsi.2.1 h5) (fun b e => ?_)
 subst e
 refine EvP.bind hto (fun t e => ?_)
 subst e
 refine EvP.bind (implPipe_ev q.f0 q.f1 h5) (fun b e => ?_)
 subst e
 refine EvP.neg (by simp) ?_
 refine EvP.bind hto (fun t e => ?_)
 subst e
 refine EvP.bind (eq25 q hsi) (fun r e => ?_)
 subst e
 exact EvP.pos rfl (EvP.now rfl)
end Go.Proofs.Ytafphfdnoejdeaa.PureFnExactGoodPipe
