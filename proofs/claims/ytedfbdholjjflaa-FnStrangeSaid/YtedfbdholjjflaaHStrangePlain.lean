/- What StrangeIn is, in plain words, and that the reference's computes it. -/
import Derived.Test.YtedfbdholjjflaaHBandLoop
import Derived.Test.YtedfbdholjjflaaHLive
import Derived.Test.YtedfbdholjjflaaPFnStrangex4
namespace Go.Proofs.Ytedfbdholjjflaa.PFnStrange
open Go.RowKit Go.Proofs.YtedfbdholjjflaaW.PrintWords Go.Proofs.YtedfbdholjjflaaW.PrintLast Go.Proofs.Ytedfbdholjjflaa.Evs Go.Proofs.Ytedfbdholjjflaa.AFnStrange
set_option linter.unusedVariables false
set_option linter.unusedSimpArgs false
/-! Good samples -/
def sampOk (l : List SM) (j : Nat) : Bool := timeB (rdM l (j : Int)).f0 && !(decide (0 < j) && decide ((rdM l (j : Int)).f0 ≤ (rdM l ((j : Int) - 1)).f0))
def goodM (l : List SM) : Bool := (List.range' 0 l.length).all (sampOk l) && decide (l.length ≤ 2000)
theorem samp_no {l : List SM} {i : Nat} (h : timeB (rdM l (i : Int)).f0 = false) : sampOk l i = false := by unfold sampOk; rw [h]; rfl
theorem samp_first {l : List SM} {i : Nat} (h : timeB (rdM l (i : Int)).f0 = true) (h0 : ¬ 0 < i) : sampOk l i = true := by unfold sampOk; rw [h, decide_eq_false h0]; rfl
theorem samp_next {l : List SM} {i : Nat} (h : timeB (rdM l (i : Int)).f0 = true) (h0 : 0 < i) : sampOk l i = !decide ((rdM l (i : Int)).f0 ≤ (rdM l ((i : Int) - 1)).f0) := by unfold sampOk; rw [h, decide_eq_true h0]; rfl
theorem specGood_loop (l : List SM) (hl : l.length ≤ 1048576) : ∀ (d i : Nat), i + d = l.length → EvP (fun k => spec_GoodSamples.l0 k l l (l.length : Int) (i : Int)) (fun r => r = ((List.range' i d).all (sampOk l) && decide (l.length ≤ 2000))) := by
  intro d
  induction d with
  | zero =>
    intro i h
    refine EvP.step ?_
    simp only [spec_GoodSamples.l0]
    refine EvP.neg (by omega) (EvP.now ?_)
    show decide _ = (true && _)
    rw [Bool.true_and]
    exact decide_eq_decide.2 (by omega)
  | succ d ih =>
    intro i h
    have hi : i < l.length := by omega
    refine EvP.step ?_
    simp only [spec_GoodSamples.l0, wrap_succ hi hl]
    rw [range'_all]
    refine EvP.pos (by omega) (EvP.pos (by omega) (EvP.pos (by omega) (EvP.bind (P := fun r => r = timeB (rdM l (i : Int)).f0) (by rw [spec_l3Time_ev]; exact EvP.now rfl) (fun t ht => ?_))))
    subst ht
    refine EvP.ite (fun hn => EvP.ite (fun h0 => ?_) (fun h0 => ?_)) (fun hn => EvP.now ?_)
    · rw [show wrap64 ((i : Int) - 1) = (i : Int) - 1 from wS64 (by omega) (by omega), samp_next hn (by omega)]
      refine EvP.pos (by omega) (EvP.pos (by omega) (EvP.ite (fun hc => EvP.now ?_) (fun hc => ?_)))
      · rw [decide_eq_true (show (rdM l (i : Int)).f0 ≤ (rdM l ((i : Int) - 1)).f0 from hc)]
        rfl
      · rw [decide_eq_false (show ¬ (rdM l (i : Int)).f0 ≤ (rdM l ((i : Int) - 1)).f0 from hc)]
        exact ih (i + 1) (by omega)
    · rw [samp_first hn (by omega), Bool.true_and]
      exact ih (i + 1) (by omega)
    · rw [samp_no (Bool.eq_false_iff.2 hn)]
      rfl
theorem specGood_ev (l : List SM) (hl : l.length ≤ 1048576) : EvP (fun k => spec_GoodSamples.f k l) (fun r => r = goodM l) := by
  unfold spec_GoodSamples.f goodM
  exact specGood_loop l hl l.length 0 (by omega)
theorem implGood_loop (l : List SM) (hl : l.length ≤ 1048576) : ∀ (d i : Nat), i + d = l.length → EvP (fun k => impl_GoodSamples.l0 k l l (l.length : Int) (i : Int)) (fun r => r = (List.range' i d).all (sampOk l)) := by
  intro d
  induction d with
  | zero =>
    intro i h
    refine EvP.step ?_
    simp only [impl_GoodSamples.l0]
    exact EvP.neg (by omega) (EvP.now rfl)
  | succ d ih =>
    intro i h
    have hi : i < l.length := by omega
    refine EvP.step ?_
    simp only [impl_GoodSamples.l0, wrap_succ hi hl]
    rw [range'_all]
    refine EvP.pos (by omega) (EvP.pos (by omega) (EvP.pos (by omega) (EvP.bind (P := fun r => r = timeB (rdM l (i : Int)).f0) (by rw [impl_isTime_ev]; exact EvP.now rfl) (fun t ht => ?_))))
    subst ht
    refine EvP.ite (fun hn => EvP.ite (fun h0 => ?_) (fun h0 => ?_)) (fun hn => EvP.now ?_)
    · rw [show wrap64 ((i : Int) - 1) = (i : Int) - 1 from wS64 (by omega) (by omega), samp_next hn (by omega)]
      refine EvP.pos (by omega) (EvP.pos (by omega) (EvP.ite (fun hc => EvP.now ?_) (fun hc => ?_)))
      · rw [decide_eq_true (show (rdM l (i : Int)).f0 ≤ (rdM l ((i : Int) - 1)).f0 from hc)]
        rfl
      · rw [decide_eq_false (show ¬ (rdM l (i : Int)).f0 ≤ (rdM l ((i : Int) - 1)).f0 from hc)]
        exact ih (i + 1) (by omega)
    · rw [samp_first hn (by omega), Bool.true_and]
      exact ih (i + 1) (by omega)
    · rw [samp_no (Bool.eq_false_iff.2 hn)]
      rfl
theorem implGood_ev (l : List SM) (hl : l.length ≤ 1048576) : EvP (fun k => impl_GoodSamples.f k l) (fun r => r = goodM l) := by
  unfold impl_GoodSamples.f goodM
  refine EvP.ite (fun h => EvP.now (by rw [decide_eq_false (by omega : ¬ l.length ≤ 2000), Bool.and_false])) (fun h => ?_)
  rw [decide_eq_true (by omega : l.length ≤ 2000), Bool.and_true]
  exact implGood_loop l hl l.length 0 (by omega)
theorem good_at {l : List SM} (h : goodM l = true) (i : Nat) (hi : i < l.length) : timeB l[i].f0 = true ∧ ∀ (h0 : 0 < i), (l[i - 1]'(by omega)).f0 < l[i].f0 := by
  unfold goodM at h
  rw [Bool.and_eq_true, List.all_eq_true] at h
  have h := h.1 i (List.mem_range'_1.2 ⟨Nat.zero_le _, by omega⟩)
  unfold sampOk at h
  rw [rdM_get l i hi] at h
  rw [Bool.and_eq_true] at h
  refine ⟨h.1, fun h0 => ?_⟩
  have h2 := h.2
  rw [show (i : Int) - 1 = ((i - 1 : Nat) : Int) by omega, rdM_get l (i - 1) (by omega), decide_eq_true h0, Bool.true_and, Bool.not_eq_true', decide_eq_false_iff_not] at h2
  omega
theorem good_len {l : List SM} (h : goodM l = true) : l.length ≤ 2000 := by
  unfold goodM at h
  rw [Bool.and_eq_true] at h
  exact of_decide_eq_true h.2
theorem good_pair {l : List SM} (h : goodM l = true) : l.Pairwise (fun a b => a.f0 < b.f0) := by
  rw [List.pairwise_iff_getElem]
  intro i j hi hj hij
  obtain ⟨d, rfl⟩ : ∃ d, j = i + d + 1 := ⟨j - i - 1, by omega⟩
  induction d with
  | zero => exact (good_at h (i + 0 + 1) hj).2 (by omega)
  | succ d ih =>
    have a := ih (by omega) (by omega)
    have b := (good_at h (i + (d + 1) + 1) hj).2 (by omega)
    simp only [show i + (d + 1) + 1 - 1 = i + d + 1 by omega] at b
    omega
theorem good_time {l : List SM} (h : goodM l = true) (x : SM) (hx : x ∈ l) : 0 ≤ x.f0 ∧ x.f0 ≤ 1000000000000 := by
  obtain ⟨i, hi, rfl⟩ := List.mem_iff_getElem.1 hx
  have := (good_at h i hi).1
  unfold timeB at this
  rw [Bool.and_eq_true] at this
  exact ⟨of_decide_eq_true this.1, of_decide_eq_true this.2⟩
/-! Live ones -/
theorem live_len (l : List SM) : (liveM l).length ≤ l.length := List.length_filter_le _ _
theorem live_sorted {l : List SM} (h : goodM l = true) : sortedM (liveM l) = true := decide_eq_true ((good_pair h).filter _)
theorem live_mem {l : List SM} {x : SM} (h : x ∈ liveM l) : x ∈ l := (List.mem_filter.1 h).1
theorem live_time {l : List SM} (h : goodM l = true) (x : SM) (hx : x ∈ liveM l) : 0 ≤ x.f0 ∧ x.f0 ≤ 1000000000000 := good_time h x (live_mem hx)
theorem real_loop (l : List SM) (hl : l.length ≤ 1048576) : ∀ (d i : Nat) (acc : List SM), i + d = l.length → acc.length ≤ i → EvP (fun k => spec_l11Real.l0 k acc l (l.length : Int) (i : Int)) (fun r => r = acc ++ (l.drop i).filter aliveB) := by
  intro d
  induction d with
  | zero =>
    intro i acc h ha
    refine EvP.step ?_
    simp only [spec_l11Real.l0]
    refine EvP.neg (by omega) (EvP.now ?_)
    rw [List.drop_of_length_le (by omega), List.filter_nil, List.append_nil]
  | succ d ih =>
    intro i acc h ha
    have hi : i < l.length := by omega
    refine EvP.step ?_
    simp only [spec_l11Real.l0, wrap_succ hi hl]
    rw [List.drop_eq_getElem_cons hi, ← rdM_get l i hi]
    refine EvP.pos (by omega) (EvP.pos (by omega) (EvP.pos (by omega) (EvP.ite (fun h1 => ?_) (fun h1 => ?_))))
    · rw [List.filter_cons_of_neg (by unfold aliveB; rw [show (rdM l (i : Int)).f1 = -9223372036854775808 from h1]; decide)]
      exact ih (i + 1) acc (by omega) (by omega)
    · rw [List.filter_cons_of_pos (show aliveB (rdM l (i : Int)) = true from bne_iff_ne.2 h1), List.append_cons acc (rdM l (i : Int)) ((l.drop (i + 1)).filter aliveB)]
      exact EvP.pos (by omega) (ih (i + 1) (acc ++ [rdM l (i : Int)]) (by omega) (by rw [List.length_append]; exact Nat.succ_le_succ ha))
theorem real_ev (l : List SM) (hl : l.length ≤ 1048576) : EvP (fun k => spec_l11Real.f k l) (fun r => r = liveM l) := by
  have := real_loop l hl l.length 0 [] (by omega) (Nat.le_refl _)
  rw [List.drop_zero, List.nil_append] at this
  exact this
/-! Strange ones -/
def fineB (s b w : Int) : Bool := decide (1 ≤ s) && (decide (s ≤ 1000000000000) && (decide (2 ≤ b) && (decide (b ≤ 50) && (decide (0 ≤ w) && decide (w ≤ 1000)))))
def outB (r : Int × Int × Bool) (v : Int) : Bool := r.2.2 && (decide (v < r.1) || decide (r.2.1 < v))
def oddB (l : List SM) (s b w : Int) (x : SM) : Bool := outB (bandB l x.f0 s b w) x.f1
def strangeM (l : List SM) (s b w : Int) : List SM := if (goodM l && fineB s b w) = true then (liveM l).filter (oddB (liveM l) s b w) else []
def impl_StrangeIn.f (l : List SM) (s b w : Int) : Option (List SM) := if l.length ≤ 1048576 then some (strangeM l s b w) else none
theorem fine_all {s b w : Int} (h : fineB s b w = true) : 1 ≤ s ∧ s ≤ 1000000000000 ∧ 2 ≤ b ∧ b ≤ 50 ∧ 0 ≤ w ∧ w ≤ 1000 := by
  unfold fineB at h
  simp only [Bool.and_eq_true, decide_eq_true_eq] at h
  exact h
theorem fineS_ev (l : List SM) (hl : l.length ≤ 1048576) (s b w : Int) : EvP (fun k => spec_l24Fine.f k l s b w) (fun r => r = (goodM l && fineB s b w)) := by
  unfold spec_l24Fine.f
  refine EvP.bind (specGood_ev l hl) (fun t ht => ?_)
  subst ht
  unfold fineB
  refine EvP.ite (fun hg => ?_) (fun hg => EvP.now (by rw [Bool.eq_false_iff.2 hg]; rfl))
  rw [hg, Bool.true_and]
  refine EvP.ite (fun h1 => ?_) (fun h1 => EvP.now (by rw [decide_eq_false (show ¬ 1 ≤ s from h1)]; rfl))
  rw [decide_eq_true (show 1 ≤ s from h1), Bool.true_and]
  refine EvP.ite (fun h1 => ?_) (fun h1 => EvP.now (by rw [decide_eq_false h1]; rfl))
  rw [decide_eq_true h1, Bool.true_and]
  refine EvP.ite (fun h1 => ?_) (fun h1 => EvP.now (by rw [decide_eq_false (show ¬ 2 ≤ b from h1)]; rfl))
  rw [decide_eq_true (show 2 ≤ b from h1), Bool.true_and]
  refine EvP.ite (fun h1 => ?_) (fun h1 => EvP.now (by rw [decide_eq_false h1]; rfl))
  rw [decide_eq_true h1, Bool.true_and]
  refine EvP.ite (fun h1 => ?_) (fun h1 => EvP.now (by rw [decide_eq_false (show ¬ 0 ≤ w from h1)]; rfl))
  rw [decide_eq_true (show 0 ≤ w from h1), Bool.true_and]
  exact EvP.now rfl
theorem goodBand_ev (s b w : Int) : impl_goodBand.f s b w = some (fineB s b w) := by
  unfold impl_goodBand.f fineB
  by_cases h1 : 1 ≤ s
  · rw [if_pos (show s ≥ 1 from h1), decide_eq_true h1, Bool.true_and]
    by_cases h2 : s ≤ 1000000000000
    · rw [if_pos h2, decide_eq_true h2, Bool.true_and]
      by_cases h3 : 2 ≤ b
      · rw [if_pos (show b ≥ 2 from h3), decide_eq_true h3, Bool.true_and]
        by_cases h4 : b ≤ 50
        · rw [if_pos h4, decide_eq_true h4, Bool.true_and]
          by_cases h5 : 0 ≤ w
          · rw [if_pos (show w ≥ 0 from h5), decide_eq_true h5, Bool.true_and]
          · rw [if_neg (show ¬ w ≥ 0 from h5), decide_eq_false h5]
            rfl
        · rw [if_neg h4, decide_eq_false h4]
          rfl
      · rw [if_neg (show ¬ b ≥ 2 from h3), decide_eq_false h3]
        rfl
    · rw [if_neg h2, decide_eq_false h2]
      rfl
  · rw [if_neg (show ¬ s ≥ 1 from h1), decide_eq_false h1]
    rfl
end Go.Proofs.Ytedfbdholjjflaa.PFnStrange
