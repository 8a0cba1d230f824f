/- What the functions on printed texts compute, the program's and the reference's alike (cut from XTxt). -/
import Derived.Test.YtpnldoegchjmmaaAFnExactPartsOf
import Derived.Test.YtpnldoegchjmmaaPFnExactPartsOfx1
import Derived.Test.YtpnldoegchjmmaaPFnExactPartsOfx1
namespace Go.Proofs.Ytpnldoegchjmmaa.PrtFnExactPartsOf
open Go.RowKit Go.Proofs.Ytpnldoegchjmmaa.PFnExactPartsOf Go.Proofs.YtpnldoegchjmmaaW.PrintWords Go.Proofs.YtpnldoegchjmmaaW.PrintLast Go.Proofs.Ytpnldoegchjmmaa.Evs Go.Proofs.Ytpnldoegchjmmaa.AFnExactPartsOf
set_option linter.unusedVariables false
def printedB (s : ByteArray) : Bool := (List.range' 0 s.size).all (fun j => decide (32 ≤ bt s (j : Int)) && decide (bt s (j : Int) ≤ 126))
theorem specPrinted_loop (s : ByteArray) (hs : s.size ≤ 1048576) : ∀ (d i : Nat), i + d = s.size → EvP (fun k => spec_l2Printed.l0 k s (i : Int)) (fun r => r = (List.range' i d).all (fun j => decide (32 ≤ bt s (j : Int)) && decide (bt s (j : Int) ≤ 126))) := by
  intro d
  induction d with
  | zero =>
    intro i h
    refine EvP.step ?_
    simp only [spec_l2Printed.l0]
    exact EvP.neg (by omega) (EvP.now rfl)
  | succ d ih =>
    intro i h
    have hi : i < s.size := by omega
    refine EvP.step ?_
    simp only [spec_l2Printed.l0, wrap_succ hi hs]
    rw [range'_all]
    refine EvP.pos (by omega) (EvP.pos (by omega) (EvP.ite (fun h1 => EvP.now (by rw [decide_eq_false (by omega : ¬ 32 ≤ bt s (i : Int))]; rfl)) (fun h1 => EvP.ite (fun h2 => EvP.now (by rw [decide_eq_false (by omega : ¬ bt s (i : Int) ≤ 126)]; simp)) (fun h2 => ?_))))
    rw [decide_eq_true (by omega : 32 ≤ bt s (i : Int)), decide_eq_true (by omega : bt s (i : Int) ≤ 126)]
    simpa using ih (i + 1) (by omega)
theorem specPrinted_ev (s : ByteArray) (hs : s.size ≤ 1048576) : EvP (fun k => spec_l2Printed.f k s) (fun r => r = printedB s) := by
  unfold spec_l2Printed.f printedB
  exact specPrinted_loop s hs s.size 0 (by omega)
theorem implPrinted_loop (s : ByteArray) (hs : s.size ≤ 1048576) : ∀ (d i : Nat), i + d = s.size → EvP (fun k => impl_printed.l0 k s (s.size : Int) (i : Int)) (fun r => r = (List.range' i d).all (fun j => decide (32 ≤ bt s (j : Int)) && decide (bt s (j : Int) ≤ 126))) := by
  intro d
  induction d with
  | zero =>
    intro i h
    refine EvP.step ?_
    simp only [impl_printed.l0]
    exact EvP.neg (by omega) (EvP.now rfl)
  | succ d ih =>
    intro i h
    have hi : i < s.size := by omega
    refine EvP.step ?_
    simp only [impl_printed.l0, wrap_succ hi hs]
    rw [range'_all]
    refine EvP.pos (by omega) (EvP.pos (by omega) (EvP.pos (by omega) (EvP.ite (fun h1 => EvP.now (by rw [decide_eq_false (by omega : ¬ 32 ≤ bt s (i : Int))]; rfl)) (fun h1 => EvP.ite (fun h2 => EvP.now (by rw [decide_eq_false (by omega : ¬ bt s (i : Int) ≤ 126)]; simp)) (fun h2 => ?_)))))
    rw [decide_eq_true (by omega : 32 ≤ bt s (i : Int)), decide_eq_true (by omega : bt s (i : Int) ≤ 126)]
    simpa using ih (i + 1) (by omega)
theorem implPrinted_ev (s : ByteArray) (m : Int) (hm : m ≤ 1048576) : EvP (fun k => impl_printed.f k s m) (fun r => r = (decide ((s.size : Int) ≤ m) && printedB s)) := by
  unfold impl_printed.f printedB
  refine EvP.ite (fun h => EvP.now (by rw [decide_eq_false (by omega : ¬ (s.size : Int) ≤ m)]; rfl)) (fun h => ?_)
  rw [decide_eq_true (by omega : (s.size : Int) ≤ m), Bool.true_and]
  exact implPrinted_loop s (by omega) s.size 0 (by omega)
end Go.Proofs.Ytpnldoegchjmmaa.PrtFnExactPartsOf
