/- What the small functions on names and times compute. Written by a program of this repo's (namegen.py). -/
import Derived.Test.YthcamcmjafhehaaDoorEv
import Derived.Test.YthcamcmjafhehaaDoorPFnExactKeepTracesx1
import Derived.Test.YthcamcmjafhehaaDoorPFnExactKeepTracesx2
namespace Go.Proofs.YthcamcmjafhehaaDoor.AFnExactKeepTraces
open Go.RowKit Go.Proofs.YthcamcmjafhehaaDoor.PFnExactKeepTraces Go.Proofs.YthcamcmjafhehaaDoorW.PrintWords Go.Proofs.YthcamcmjafhehaaDoorW.PrintLast Go.Proofs.YthcamcmjafhehaaDoor.Evs
theorem spec_l2Digit_ev (c : Int) : spec_l2Digit.f c = some (digC c) := by
  unfold spec_l2Digit.f digC
  by_cases h : c ≥ 48
  · rw [if_pos h]; simp [show (48 : Int) ≤ c from h]
  · rw [if_neg h]; simp [show ¬ (48 : Int) ≤ c from h]
theorem impl_digitByte_ev (c : Int) : impl_digitByte.f c = some (digC c) := by
  unfold impl_digitByte.f digC
  by_cases h : c ≥ 48
  · rw [if_pos h]; simp [show (48 : Int) ≤ c from h]
  · rw [if_neg h]; simp [show ¬ (48 : Int) ≤ c from h]
theorem spec_l2Letter_ev (c : Int) : spec_l2Letter.f c = some (letC c) := by
  unfold spec_l2Letter.f letC
  by_cases h : c ≥ 97
  · rw [if_pos h]
    by_cases h2 : c ≤ 122
    · rw [if_pos h2]; simp [show (97 : Int) ≤ c from h, h2]
    · rw [if_neg h2, if_pos (by omega)]; simp [show (97 : Int) ≤ c from h, h2]
      omega
  · rw [if_neg h]
    by_cases h2 : c ≥ 65
    · rw [if_pos h2]; simp [show ¬ (97 : Int) ≤ c from h, show (65 : Int) ≤ c from h2]
    · rw [if_neg h2]; simp [show ¬ (97 : Int) ≤ c from h, show ¬ (65 : Int) ≤ c from h2]
theorem impl_letterByte_ev (c : Int) : impl_letterByte.f c = some (letC c) := by
  unfold impl_letterByte.f letC
  by_cases h : c ≥ 97
  · rw [if_pos h]
    by_cases h2 : c ≤ 122
    · rw [if_pos h2]; simp [show (97 : Int) ≤ c from h, h2]
    · rw [if_neg h2, if_pos (by omega)]; simp [show (97 : Int) ≤ c from h, h2]
      omega
  · rw [if_neg h]
    by_cases h2 : c ≥ 65
    · rw [if_pos h2]; simp [show ¬ (97 : Int) ≤ c from h, show (65 : Int) ≤ c from h2]
    · rw [if_neg h2]; simp [show ¬ (97 : Int) ≤ c from h, show ¬ (65 : Int) ≤ c from h2]
theorem impl_wordByte_ev (c : Int) : impl_wordByte.f c = some (wordC c) := by
  unfold impl_wordByte.f wordC
  rw [impl_letterByte_ev, impl_digitByte_ev]
  simp only [Option.bind_some]
  cases letC c <;> cases digC c <;> simp
theorem spec_l3Time_ev (t : Int) : spec_l3Time.f t = some (timeB t) := by
  unfold spec_l3Time.f timeB
  by_cases h : t ≥ 0
  · rw [if_pos h]; simp [show (0 : Int) ≤ t from h]
  · rw [if_neg h]; simp [show ¬ (0 : Int) ≤ t from h]
theorem impl_isTime_ev (t : Int) : impl_isTime.f t = some (timeB t) := by
  unfold impl_isTime.f timeB
  by_cases h : t ≥ 0
  · rw [if_pos h]; simp [show (0 : Int) ≤ t from h]
  · rw [if_neg h]; simp [show ¬ (0 : Int) ≤ t from h]
theorem spec_l2Name_loop (s : ByteArray) (hs : s.size ≤ 40) : ∀ (d i : Nat), i + d = s.size → EvP (fun k => spec_l2Name.l0 k s (i : Int)) (fun r => r = (List.range' i d).all (fun j => wordC (bt s (j : Int)))) := by
  intro d
  induction d with
  | zero =>
    intro i h
    refine EvP.step ?_
    simp only [spec_l2Name.l0]
    exact EvP.neg (by omega) (EvP.now rfl)
  | succ d ih =>
    intro i h
    have hi : i < s.size := by omega
    have hn := ih (i + 1) (by omega)
    refine EvP.step ?_
    simp only [spec_l2Name.l0, spec_l2Letter_ev, spec_l2Digit_ev, Option.bind_some, wrap_succ hi (by omega)]
    refine EvP.pos (by omega) (EvP.pos (by omega) ?_)
    rw [range'_all]
    unfold wordC
    unfold wordC at hn
    by_cases h9 : bt s (i : Int) = 95
    · have hb : (bt s (i : Int) == 95) = true := beq_iff_eq.2 h9
      cases letC (bt s (i : Int)) <;> cases digC (bt s (i : Int)) <;> simp [h9] <;> exact hn
    · have hb : (bt s (i : Int) == 95) = false := beq_eq_false_iff_ne.2 h9
      cases letC (bt s (i : Int)) <;> cases digC (bt s (i : Int)) <;> simp [h9, hb] <;> first | exact hn | exact EvP.now rfl
theorem spec_l2Name_ev (s : ByteArray) : EvP (fun k => spec_l2Name.f k s) (fun r => r = nameB s) := by
  unfold spec_l2Name.f nameB
  have bad : EvP (fun k => spec_l2Name.j0 k s true) (fun r => r = false) := EvP.step (by simp only [spec_l2Name.j0, if_true]; exact EvP.now rfl)
  refine EvP.ite (fun h => ?_) (fun h1 => EvP.ite (fun h => ?_) (fun h2 => EvP.pos (by omega) ?_))
  · rw [show decide (1 ≤ s.size) = false from decide_eq_false (by omega)]
    exact bad
  · rw [show decide (s.size ≤ 40) = false from decide_eq_false (by omega)]
    simp only [Bool.and_false, Bool.false_and]
    exact bad
  · rw [show decide (1 ≤ s.size) = true from decide_eq_true (by omega), show decide (s.size ≤ 40) = true from decide_eq_true (by omega)]
    simp only [spec_l2Digit_ev, Option.bind_some]
    cases digC (bt s 0) with
    | true => exact bad
    | false => exact EvP.step (by simp only [spec_l2Name.j0]; exact EvP.neg (by decide) (by simpa using spec_l2Name_loop s (by omega) s.size 0 (by omega)))
theorem impl_isName_loop (s : ByteArray) (hs : s.size ≤ 40) : ∀ (d i : Nat), i + d = s.size → EvP (fun k => impl_isName.l0 k s (s.size : Int) (i : Int)) (fun r => r = (List.range' i d).all (fun j => wordC (bt s (j : Int)))) := by
  intro d
  induction d with
  | zero =>
    intro i h
    refine EvP.step ?_
    simp only [impl_isName.l0]
    exact EvP.neg (by omega) (EvP.now rfl)
  | succ d ih =>
    intro i h
    have hi : i < s.size := by omega
    have hn := ih (i + 1) (by omega)
    refine EvP.step ?_
    simp only [impl_isName.l0, impl_wordByte_ev, Option.bind_some, wrap_succ hi (by omega)]
    refine EvP.pos (by omega) (EvP.pos (by omega) (EvP.pos (by omega) ?_))
    rw [range'_all]
    cases wordC (bt s (i : Int)) <;> simp <;> first | exact hn | exact EvP.now rfl
theorem impl_isName_ev (s : ByteArray) : EvP (fun k => impl_isName.f k s) (fun r => r = nameB s) := by
  unfold impl_isName.f nameB
  have bad : EvP (fun k => impl_isName.j0 k s true) (fun r => r = false) := EvP.step (by simp only [impl_isName.j0, if_true]; exact EvP.now rfl)
  refine EvP.ite (fun h => ?_) (fun h1 => EvP.ite (fun h => ?_) (fun h2 => EvP.pos (by have := size_pos h1; omega) ?_))
  · have := size_zero h
    rw [show decide (1 ≤ s.size) = false from decide_eq_false (by omega)]
    exact bad
  · rw [show decide (s.size ≤ 40) = false from decide_eq_false (by omega)]
    simp only [Bool.and_false, Bool.false_and]
    exact bad
  · have := size_pos h1
    rw [show decide (1 ≤ s.size) = true from decide_eq_true (by omega), show decide (s.size ≤ 40) = true from decide_eq_true (by omega)]
    simp only [impl_digitByte_ev, Option.bind_some]
    cases digC (bt s 0) with
    | true => exact bad
    | false => exact EvP.step (by simp only [impl_isName.j0]; exact EvP.neg (by decide) (by simpa using impl_isName_loop s (by omega) s.size 0 (by omega)))
end Go.Proofs.YthcamcmjafhehaaDoor.AFnExactKeepTraces
