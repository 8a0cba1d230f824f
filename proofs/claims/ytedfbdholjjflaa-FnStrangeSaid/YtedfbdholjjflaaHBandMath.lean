/- What bands are: the program's band and the reference's compute the same, in plain words. -/
import Derived.Test.YtedfbdholjjflaaEv
import Derived.Test.YtedfbdholjjflaaPFnStrangex2
import Derived.Test.YtedfbdholjjflaaPFnStrangex5
import Derived.Test.YtedfbdholjjflaaPFnStrangex2
namespace Go.Proofs.Ytedfbdholjjflaa.PFnStrange
open Go.RowKit Go.Proofs.YtedfbdholjjflaaW.PrintWords Go.Proofs.YtedfbdholjjflaaW.PrintLast Go.Proofs.Ytedfbdholjjflaa.Evs
set_option linter.unusedVariables false
set_option linter.unusedSimpArgs false
theorem halves (n : Int) (hn : 0 ≤ n) (h9 : n ≤ 9223372036854775807) : ∀ (d : Nat) (low high : Int), 0 ≤ low → low ≤ high → high ≤ top → (high - low).toNat ≤ d → low * low ≤ n → n < (high + 1) * (high + 1) →
    Ev (fun k => spec_RootOf.l0 k n low high) (rootI n) := by
  intro d
  induction d with
  | zero =>
    intro low high h0 h1 h2 hd hl hh
    obtain rfl : low = high := by omega
    have e : low = rootI n := root_unique ⟨fun h => by omega, fun _ => ⟨h0, hl, hh⟩⟩ (rootI_is n)
    refine Ev.step (f := fun _ => some low) (fun k => ?_) (by rw [e]; exact Ev.now _)
    simp only [spec_RootOf.l0]
    rw [if_neg (by omega)]
  | succ d ih =>
    intro low high h0 h1 h2 hd hl hh
    by_cases hlt : low < high
    · have ht : high ≤ 3037000499 := h2
      have em : wrap64 (Int.tdiv (wrap64 (wrap64 (low + high) + 1)) 2) = (low + high + 1) / 2 := by
        rw [w64 (x := low + high) (by omega) (by omega), w64 (x := low + high + 1) (by omega) (by omega), Int.tdiv_eq_ediv_of_nonneg (by omega), w64 (by omega) (by omega)]
      have hm : low < (low + high + 1) / 2 ∧ (low + high + 1) / 2 ≤ high := by omega
      generalize (low + high + 1) / 2 = mid at em hm
      have hsq := top_le (r := mid) (by omega) (by omega)
      have es : wrap64 (mid * mid) = mid * mid := w64 (by omega) hsq.1
      by_cases hc : mid * mid ≤ n
      · refine Ev.step (f := fun k => spec_RootOf.l0 k n mid high) (fun k => ?_) (ih mid high (by omega) (by omega) h2 (by omega) hc hh)
        simp only [spec_RootOf.l0]
        rw [if_pos hlt, em, es, if_pos hc]
      · have e1 : wrap64 (mid - 1) = mid - 1 := w64 (by omega) (by omega)
        refine Ev.step (f := fun k => spec_RootOf.l0 k n low (mid - 1)) (fun k => ?_) (ih low (mid - 1) h0 (by omega) (by omega) (by omega) hl (by rw [show mid - 1 + 1 = mid by omega]; omega))
        simp only [spec_RootOf.l0]
        rw [if_pos hlt, em, es, if_neg hc, e1]
    · obtain rfl : low = high := by omega
      have e : low = rootI n := root_unique ⟨fun h => by omega, fun _ => ⟨h0, hl, hh⟩⟩ (rootI_is n)
      refine Ev.step (f := fun _ => some low) (fun k => ?_) (by rw [e]; exact Ev.now _)
      simp only [spec_RootOf.l0]
      rw [if_neg (by omega)]

theorem spec_ev (n : Int) (h9 : n ≤ 9223372036854775807) : Ev (fun k => spec_RootOf.f k n) (rootI n) := by
  unfold spec_RootOf.f
  by_cases h : n ≤ 0
  · simp only [if_pos h]
    have e : 0 = rootI n := root_unique ⟨fun _ => rfl, fun h' => ⟨by omega, by omega, by omega⟩⟩ (rootI_is n)
    rw [← e]
    exact Ev.now _
  · simp only [if_neg h]
    have e2 : (top + 1) * (top + 1) = 9223372037000250000 := by decide
    exact halves n (by omega) h9 _ 0 top (by omega) (by decide) (Int.le_refl _) (Nat.le_refl _) (by omega) (by omega)

theorem wr_range (x : Int) : -9223372036854775808 ≤ wrap64 x ∧ wrap64 x ≤ 9223372036854775807 := by
  unfold wrap64
  omega
/-! The quotient -/
def quoF (a b : Int) : Int := if b = 0 then 0 else if Int.tmod a b = 0 then wrap64 (Int.tdiv a b) else if (decide (Int.tmod a b < 0) != decide (b < 0)) = true then wrap64 (wrap64 (Int.tdiv a b) - 1) else wrap64 (Int.tdiv a b)
theorem quo_range (a b : Int) : -9223372036854775808 ≤ quoF a b ∧ quoF a b ≤ 9223372036854775807 := by
  unfold quoF
  split
  · exact ⟨by omega, by omega⟩
  · split
    · exact wr_range _
    · split
      · exact wr_range _
      · exact wr_range _
theorem specQuo_ev (a b : Int) : spec_Quotient.f a b = some (quoF a b) := by
  unfold spec_Quotient.f quoF
  split
  · rfl
  · split
    · rfl
    · split <;> rfl
theorem tmod_sign (a b : Int) (h : Int.tmod a b ≠ 0) : decide (Int.tmod a b < 0) = decide (a < 0) := by
  rw [decide_eq_decide]
  by_cases ha : a < 0
  · have : 0 ≤ Int.tmod (-a) b := Int.tmod_nonneg b (by omega)
    rw [Int.neg_tmod] at this
    omega
  · have : 0 ≤ Int.tmod a b := Int.tmod_nonneg b (by omega)
    omega
theorem implQuo_ev (a b : Int) : impl_Quotient.f a b = some (quoF a b) := by
  unfold impl_Quotient.f quoF
  split
  · rfl
  · split
    · rfl
    · rename_i h
      rw [tmod_sign a b h]
      split <;> rfl
/-! Sums -/
def sumF (v : List Int) : Int := v.foldl (fun a x => wrap64 (a + x)) 0
def sqF (n s : Int) (v : List Int) : Int := v.foldl (fun q x => wrap64 (q + wrap64 (wrap64 (wrap64 (n * x) - s) * wrap64 (wrap64 (n * x) - s)))) 0
theorem foldl_take {β : Type} (f : β → Int → β) (z : β) (v : List Int) (i : Nat) (h : i < v.length) : (v.take (i + 1)).foldl f z = f ((v.take i).foldl f z) (rd v (i : Int)) := by
  rw [List.take_succ_eq_append_getElem h, List.foldl_append, rd_get v i h]
  rfl
def sumTo (v : List Int) (i : Nat) : Int := sumF (v.take i)
def sqTo (n s : Int) (v : List Int) (i : Nat) : Int := sqF n s (v.take i)
theorem sumTo_zero (v : List Int) : sumTo v 0 = 0 := rfl
theorem sumTo_all (v : List Int) : sumTo v v.length = sumF v := by unfold sumTo; rw [List.take_length]
theorem sumTo_succ (v : List Int) (i : Nat) (h : i < v.length) : sumTo v (i + 1) = wrap64 (sumTo v i + rd v (i : Int)) := foldl_take _ _ v i h
theorem sqTo_zero (n s : Int) (v : List Int) : sqTo n s v 0 = 0 := rfl
theorem sqTo_all (n s : Int) (v : List Int) : sqTo n s v v.length = sqF n s v := by unfold sqTo; rw [List.take_length]
theorem sqTo_succ (n s : Int) (v : List Int) (i : Nat) (h : i < v.length) : sqTo n s v (i + 1) = wrap64 (sqTo n s v i + wrap64 (wrap64 (wrap64 (n * rd v (i : Int)) - s) * wrap64 (wrap64 (n * rd v (i : Int)) - s))) := foldl_take _ _ v i h
def denF (n : Int) : Int := wrap64 (wrap64 (n * n) * wrap64 (n - 1))
def widF (v : List Int) (width : Int) : Int := quoF (wrap64 (width * rootI (quoF (sqF (v.length : Int) (sumF v) v) (denF (v.length : Int))))) 10
def finB (v : List Int) (width : Int) : Int × Int × Bool :=
  if v.length < 2 then (0, 0, false) else (wrap64 (quoF (sumF v) (v.length : Int) - widF v width), wrap64 (quoF (sumF v) (v.length : Int) + widF v width), true)
theorem quoI_ev (a b : Int) : EvP (fun _ => impl_Quotient.f a b) (fun r => r = quoF a b) := by
  rw [implQuo_ev]
  exact EvP.now rfl
theorem quoS_ev (a b : Int) : EvP (fun _ => spec_Quotient.f a b) (fun r => r = quoF a b) := by
  rw [specQuo_ev]
  exact EvP.now rfl
theorem rootP_ev (x : Int) (h : -9223372036854775808 ≤ x ∧ x ≤ 9223372036854775807) : EvP (fun _ => impl_RootOf.f x) (fun r => r = rootI x) := by
  unfold impl_RootOf.f
  rw [if_pos h]
  exact EvP.now rfl
theorem wid_eq {v : List Int} {width t u q : Int} (ht : t = quoF (sqF (v.length : Int) (sumF v) v) (wrap64 (wrap64 ((v.length : Int) * (v.length : Int)) * wrap64 ((v.length : Int) - 1)))) (hu : u = rootI t) (hq : q = quoF (wrap64 (width * u)) 10) : q = widF v width := by
  unfold widF denF
  rw [hq, hu, ht]
theorem impl_l2_ev (width : Int) (v : List Int) (hv : ¬ v.length < 2) (hl : v.length ≤ 1048576) : ∀ (d i : Nat), i + d = v.length → EvP (fun k => impl_band.l2 k width (v.length : Int) (sumF v) (sqTo (v.length : Int) (sumF v) v i) v (v.length : Int) (i : Int)) (fun r => r = finB v width) := by
  intro d
  induction d with
  | zero =>
    intro i h
    obtain rfl : i = v.length := by omega
    refine EvP.step ?_
    simp only [impl_band.l2, sqTo_all]
    refine EvP.neg (by omega) ?_
    refine EvP.bind (quoI_ev _ _) (fun m hm => ?_)
    refine EvP.bind (quoI_ev _ _) (fun t ht => ?_)
    refine EvP.bind (rootP_ev t (by rw [ht]; exact quo_range _ _)) (fun u hu => ?_)
    refine EvP.bind (quoI_ev _ _) (fun q hq => EvP.now ?_)
    unfold finB
    rw [if_neg hv, hm, wid_eq ht hu hq]
  | succ d ih =>
    intro i h
    have hi : i < v.length := by omega
    refine EvP.step ?_
    simp only [impl_band.l2, wrap_succ hi hl, ← sqTo_succ _ _ v i hi]
    exact EvP.pos (by omega) (EvP.pos (by omega) (EvP.pos (by omega) (ih (i + 1) (by omega))))
theorem impl_l1_ev (width : Int) (v : List Int) (hv : ¬ v.length < 2) (hl : v.length ≤ 1048576) : ∀ (d i : Nat), i + d = v.length → EvP (fun k => impl_band.l1 k width v (v.length : Int) (sumTo v i) 0 v (v.length : Int) (i : Int)) (fun r => r = finB v width) := by
  intro d
  induction d with
  | zero =>
    intro i h
    obtain rfl : i = v.length := by omega
    refine EvP.step ?_
    simp only [impl_band.l1, sumTo_all]
    have := impl_l2_ev width v hv hl v.length 0 (by omega)
    rw [sqTo_zero] at this
    exact EvP.neg (by omega) this
  | succ d ih =>
    intro i h
    have hi : i < v.length := by omega
    refine EvP.step ?_
    simp only [impl_band.l1, wrap_succ hi hl, ← sumTo_succ v i hi]
    exact EvP.pos (by omega) (EvP.pos (by omega) (EvP.pos (by omega) (ih (i + 1) (by omega))))
theorem spec_l1_ev (width : Int) (v : List Int) (hv : ¬ v.length < 2) (hl : v.length ≤ 1048576) : ∀ (d i : Nat), i + d = v.length → EvP (fun k => spec_l24Band.l1 k width (sumF v) (v.length : Int) (sqTo (v.length : Int) (sumF v) v i) v (v.length : Int) (i : Int)) (fun r => r = finB v width) := by
  intro d
  induction d with
  | zero =>
    intro i h
    obtain rfl : i = v.length := by omega
    refine EvP.step ?_
    simp only [spec_l24Band.l1, sqTo_all]
    refine EvP.neg (by omega) ?_
    refine EvP.bind (quoS_ev _ _) (fun m hm => ?_)
    refine EvP.bind (quoS_ev _ _) (fun t ht => ?_)
    refine EvP.bind (Go.Proofs.Ytedfbdholjjflaa.Evs.Ev.evP (spec_ev t (by rw [ht]; exact (quo_range _ _).2))) (fun u hu => ?_)
    refine EvP.bind (quoS_ev _ _) (fun q hq => EvP.now ?_)
    unfold finB
    rw [if_neg hv, hm, wid_eq ht hu hq]
  | succ d ih =>
    intro i h
    have hi : i < v.length := by omega
    refine EvP.step ?_
    simp only [spec_l24Band.l1, wrap_succ hi hl, ← sqTo_succ _ _ v i hi]
    exact EvP.pos (by omega) (EvP.pos (by omega) (EvP.pos (by omega) (ih (i + 1) (by omega))))
end Go.Proofs.Ytedfbdholjjflaa.PFnStrange
