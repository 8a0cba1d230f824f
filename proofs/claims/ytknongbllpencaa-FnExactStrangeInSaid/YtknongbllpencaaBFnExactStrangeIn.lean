/- What the law's own helpers compute (sizes, copies, comparisons). Written by a program of this repo's (plaingen.py). -/
import Derived.Test.YtknongbllpencaaGFnExactStrangeIn
import Derived.Test.YtknongbllpencaaEv
import Derived.Test.YtknongbllpencaaPFnExactStrangeInx2
import Derived.Test.YtknongbllpencaaPFnExactStrangeInx3
import Derived.Test.YtknongbllpencaaPFnExactStrangeInx4
namespace Go.Proofs.Ytknongbllpencaa.BFnExactStrangeIn
open Go.RowKit Go.Proofs.Ytknongbllpencaa.PFnExactStrangeIn Go.Proofs.YtknongbllpencaaW.PrintWords Go.Proofs.YtknongbllpencaaW.PrintLast Go.Proofs.Ytknongbllpencaa.Opn Go.Proofs.Ytknongbllpencaa.GFnExactStrangeIn Go.Proofs.Ytknongbllpencaa.Evs
set_option linter.unusedVariables false
/-! loop.example/g00039/laws.Sample -/
def small37 (x : S37) : Prop := True ∧ True
def conv37 (x : S37) : S33 := ⟨x.f0, x.f1⟩
theorem rdT37 (l : List S37) (i : Nat) (h : i < l.length) : rd_T37 l (i : Int) = l[i] := getD_get _ l i h
theorem rdT33 (l : List S33) (i : Nat) (h : i < l.length) : rd_T33 l (i : Int) = l[i] := getD_get _ l i h
theorem to37 (x : S37) (hs : small37 x) : EvP (fun k => laws_toSample.f x.f0 x.f1) (fun r => r = ((conv37 x).f0, (conv37 x).f1)) := by
  unfold laws_toSample.f
  obtain ⟨s0, s1⟩ := hs
  exact EvP.now rfl
def smalli37 (x : S33) : Prop := True ∧ True
theorem eq37 (x : S33) (hs : smalli37 x) : EvP (fun k => laws_eqSample.f x.f0 x.f1 x.f0 x.f1) (fun r => r = true) := by
  unfold laws_eqSample.f
  obtain ⟨s0, s1⟩ := hs
  refine EvP.pos rfl ?_
  refine EvP.pos rfl ?_
  exact EvP.now rfl
theorem small_conv37 (x : S37) (hs : small37 x) : smalli37 (conv37 x) := by
  obtain ⟨s0, s1⟩ := hs
  exact ⟨s0, s1⟩
/-! lists of loop.example/g00039/laws.Sample -/
theorem szS22 (l : List (S37)) (hg : GoodL good37 l) (left : Int) (h0 : 0 ≤ left) (h1 : left ≤ 1048576) : EvP (fun k => laws_szSampleS.f l left) (fun r => r ≤ left ∧ (0 ≤ r → (l.length ≤ 1048576 ∧ ∀ y ∈ l, small37 y))) := by
  have hl := hg.1
  unfold laws_szSampleS.f
  have e : wrap64 (left - (l.length : Int)) = left - (l.length : Int) := Evs.w64 (by omega) (by omega)
  simp only [e]
  refine EvP.ite (fun hc => EvP.now ⟨by omega, fun h => by omega⟩) (fun hc => ?_)
  exact EvP.now ⟨by omega, fun _ => ⟨by omega, fun _ _ => by first | trivial | exact ⟨trivial, trivial⟩ | exact ⟨trivial, trivial, trivial⟩⟩⟩
theorem toL22 (l : List (S37)) (hs : (l.length ≤ 1048576 ∧ ∀ y ∈ l, small37 y)) : ∀ (d i : Nat) (acc : List (S33)), i + d = l.length → acc.length = l.length → acc.take i = (l.take i).map conv37 → EvP (fun k => laws_toSampleS.l0 k l acc (i : Int)) (fun r => r = l.map conv37) := by
  have hl := hs.1
  intro d
  induction d with
  | zero =>
    intro i acc h ha ht
    refine EvP.step ?_
    simp only [laws_toSampleS.l0]
    refine EvP.neg (by omega) (EvP.now ?_)
    obtain rfl : i = l.length := by omega
    exact take_all l _ acc ha ht
  | succ d ih =>
    intro i acc h ha ht
    have hi : i < l.length := by omega
    have hst := take_conv l conv37 acc i hi ha ht
    refine EvP.step ?_
    simp only [laws_toSampleS.l0, wrap_succ hi hl, rdT37 l i hi, Int.toNat_natCast]
    refine EvP.pos (by omega) (EvP.pos (by omega) ?_)
    refine EvP.bind (to37 l[i] (hs.2 _ (List.getElem_mem _))) (fun r hr => ?_)
    subst hr
    refine EvP.pos (by omega) ?_
    exact ih (i + 1) _ (by omega) hst.1 hst.2
theorem toS22 (l : List (S37)) (hs : (l.length ≤ 1048576 ∧ ∀ y ∈ l, small37 y)) : EvP (fun k => laws_toSampleS.f k l) (fun r => r = (l.map conv37)) := by
  have hl := hs.1
  unfold laws_toSampleS.f
  refine EvP.pos (by omega) (EvP.pos (by omega) ?_)
  refine (toL22 l hs l.length 0 _ (by omega) (by simp) (by simp)).imp (fun r hr => ?_)
  rw [hr]
theorem eqL22 (l : List (S33)) (hs : (l.length ≤ 1048576 ∧ ∀ y ∈ l, smalli37 y)) : ∀ (d i : Nat), i + d = l.length → EvP (fun k => laws_eqSampleS.l0 k l l (i : Int)) (fun r => r = true) := by
  have hl := hs.1
  intro d
  induction d with
  | zero =>
    intro i h
    refine EvP.step ?_
    simp only [laws_eqSampleS.l0]
    exact EvP.neg (by omega) (EvP.now rfl)
  | succ d ih =>
    intro i h
    have hi : i < l.length := by omega
    refine EvP.step ?_
    simp only [laws_eqSampleS.l0, wrap_succ hi hl, rdT33 l i hi]
    refine EvP.pos (by omega) (EvP.pos (by omega) (EvP.pos (by omega) ?_))
    refine EvP.bind (eq37 l[i] (hs.2 _ (List.getElem_mem _))) (fun r hr => ?_)
    subst hr
    refine EvP.pos rfl ?_
    exact ih (i + 1) (by omega)
theorem eqS22 (l : List (S33)) (hs : (l.length ≤ 1048576 ∧ ∀ y ∈ l, smalli37 y)) : EvP (fun k => laws_eqSampleS.f k l l) (fun r => r = true) := by
  unfold laws_eqSampleS.f
  simp only [if_true]
  exact eqL22 l hs l.length 0 (by omega)
theorem small_convS22 (l : List (S37)) (hs : (l.length ≤ 1048576 ∧ ∀ y ∈ l, small37 y)) : ((l.map conv37).length ≤ 1048576 ∧ ∀ y ∈ (l.map conv37), smalli37 y) := by
  refine ⟨by rw [List.length_map]; exact hs.1, fun y hy => ?_⟩
  obtain ⟨z, hz, rfl⟩ := List.mem_map.1 hy
  exact small_conv37 z (hs.2 z hz)
end Go.Proofs.Ytknongbllpencaa.BFnExactStrangeIn
