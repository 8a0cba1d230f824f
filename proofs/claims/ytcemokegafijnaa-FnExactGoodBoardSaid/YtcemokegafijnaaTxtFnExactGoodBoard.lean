/- What the functions on texts compute, the program's and the reference's alike (cut from XLab for laws without labels). -/
import Derived.Test.YtcemokegafijnaaAFnExactGoodBoard
import Derived.Test.YtcemokegafijnaaPFnExactGoodBoardx2
import Derived.Test.YtcemokegafijnaaPFnExactGoodBoardx4
import Derived.Test.YtcemokegafijnaaPFnExactGoodBoardx2
namespace Go.Proofs.Ytcemokegafijnaa.TxtFnExactGoodBoard
open Go.RowKit Go.Proofs.Ytcemokegafijnaa.PFnExactGoodBoard Go.Proofs.YtcemokegafijnaaW.PrintWords Go.Proofs.YtcemokegafijnaaW.PrintLast Go.Proofs.Ytcemokegafijnaa.Evs Go.Proofs.Ytcemokegafijnaa.AFnExactGoodBoard
set_option linter.unusedVariables false
/-- The three-way comparison of two texts. -/
def cmpT (a b : List UInt8) : Int := if Op.bytesLess a b = true then -1 else if Op.bytesLess b a = true then 1 else 0
theorem less_irrefl : ∀ a : List UInt8, Op.bytesLess a a = false
  | [] => rfl
  | x :: xs => by
    simp only [Op.bytesLess, beq_self_eq_true, Bool.true_and, less_irrefl xs, Bool.or_false]
    exact decide_eq_false (UInt8.lt_irrefl x)
theorem cmpT_nil_nil : cmpT [] [] = 0 := rfl
theorem cmpT_nil_cons (b : UInt8) (y : List UInt8) : cmpT [] (b :: y) = -1 := rfl
theorem cmpT_cons_nil (a : UInt8) (x : List UInt8) : cmpT (a :: x) [] = 1 := rfl
theorem cmpT_eq (a : UInt8) (x y : List UInt8) : cmpT (a :: x) (a :: y) = cmpT x y := by
  unfold cmpT
  simp only [Op.bytesLess, beq_self_eq_true, Bool.true_and, decide_eq_false (UInt8.lt_irrefl a), Bool.false_or]
theorem cmpT_lt {a b : UInt8} (x y : List UInt8) (h : a.toNat < b.toNat) : cmpT (a :: x) (b :: y) = -1 := by
  unfold cmpT
  have : a < b := h
  simp only [Op.bytesLess, decide_eq_true this, Bool.true_or, if_true]
theorem cmpT_gt {a b : UInt8} (x y : List UInt8) (h : b.toNat < a.toNat) : cmpT (a :: x) (b :: y) = 1 := by
  unfold cmpT
  have h1 : b < a := h
  have h2 : ¬ a < b := fun h' => by have : a.toNat < b.toNat := h'; omega
  have h3 : (a == b) = false := by
    rw [beq_eq_false_iff_ne]
    intro e
    subst e
    omega
  simp only [Op.bytesLess, decide_eq_false h2, decide_eq_true h1, h3, Bool.false_and, Bool.false_or, Bool.true_or, if_true, Bool.false_eq_true, if_false]
theorem cmpT_neg (a b : List UInt8) : cmpT a b < 0 ↔ Op.bytesLess a b = true := by
  unfold cmpT
  by_cases h : Op.bytesLess a b = true
  · rw [if_pos h]
    exact ⟨fun _ => h, fun _ => by omega⟩
  · rw [if_neg h]
    by_cases h2 : Op.bytesLess b a = true
    · rw [if_pos h2]
      exact ⟨fun h' => by omega, fun h' => absurd h' h⟩
    · rw [if_neg h2]
      exact ⟨fun h' => by omega, fun h' => absurd h' h⟩
theorem bt_list (s : ByteArray) (i : Nat) (h : i < s.toList.length) : bt s (i : Int) = ((s.toList[i]'h).toNat : Int) := by
  have hs : i < s.size := by rw [← size_list]; exact h
  rw [← bt_at s (i : Int) (by simpa using hs)]
  have e : s.toList[i]'h = s[i]'hs := by
    have e2 : s.toList = s.data.toList := Lib.toList_data s
    have e3 : s.toList[i]? = some (s[i]'hs) := by
      rw [e2, Array.getElem?_toList]
      exact Array.getElem?_eq_getElem hs
    rw [List.getElem?_eq_getElem h] at e3
    exact Option.some.inj e3
  rw [e]
  rfl

theorem cmpNum_ev (a b : Int) : spec_l2CmpNum.f a b = some (if a < b then -1 else if a > b then 1 else 0) := by
  unfold spec_l2CmpNum.f
  split <;> first | rfl | (split <;> rfl)
theorem w_bt (s : ByteArray) (i : Int) : wrap64 (bt s i) = bt s i := by
  have := bt_range s i
  exact w64 (by omega) (by omega)
theorem cmpText_loop (s t : ByteArray) (hs : s.size ≤ 1048576) (ht : t.size ≤ 1048576) : ∀ (d i : Nat), i + d = s.size → i ≤ t.size → EvP (fun k => spec_l2CmpText.l0 k s t (i : Int)) (fun r => r = cmpT (s.toList.drop i) (t.toList.drop i)) := by
  have ls := size_list s
  have lt := size_list t
  intro d
  induction d with
  | zero =>
    intro i h hit
    refine EvP.step ?_
    simp only [spec_l2CmpText.l0]
    refine EvP.neg (by omega) (EvP.step ?_)
    simp only [spec_l2CmpText.j1, cmpNum_ev, Option.bind_some]
    refine EvP.neg (by simp) (EvP.now ?_)
    rw [List.drop_of_length_le (by omega : s.toList.length ≤ i)]
    by_cases hlt : i < t.toList.length
    · rw [List.drop_eq_getElem_cons hlt, cmpT_nil_cons, if_pos (by omega)]
    · rw [List.drop_of_length_le (by omega), cmpT_nil_nil, if_neg (by omega), if_neg (by omega)]
  | succ d ih =>
    intro i h hit
    have hi : i < s.size := by omega
    refine EvP.step ?_
    simp only [spec_l2CmpText.l0]
    refine EvP.pos (by omega) (EvP.step ?_)
    simp only [spec_l2CmpText.j1, cmpNum_ev, Option.bind_some, wrap_succ hi hs, w_bt]
    rw [List.drop_eq_getElem_cons (by omega : i < s.toList.length)]
    refine EvP.ite (fun hd => ?_) (fun hd => ?_)
    · have hj := of_decide_eq_true hd
      have hjt : i < t.toList.length := by omega
      refine EvP.pos (by omega) (EvP.pos (by omega) (EvP.pos (by omega) ?_))
      rw [List.drop_eq_getElem_cons hjt, bt_list s i (by omega), bt_list t i hjt]
      refine EvP.ite (fun he => ?_) (fun he => EvP.now ?_)
      · have e : s.toList[i]'(by omega) = t.toList[i]'hjt := UInt8.toNat_inj.1 (by omega)
        rw [e, cmpT_eq]
        exact ih (i + 1) (by omega) (by omega)
      · by_cases hlt : (s.toList[i]'(by omega)).toNat < (t.toList[i]'hjt).toNat
        · rw [cmpT_lt _ _ hlt, if_pos (by omega)]
        · rw [cmpT_gt _ _ (by omega), if_neg (by omega), if_pos (by omega)]
    · have hj := of_decide_eq_false (Bool.eq_false_iff.2 hd)
      refine EvP.now ?_
      rw [List.drop_of_length_le (by omega : t.toList.length ≤ i), cmpT_cons_nil, if_neg (by omega), if_pos (by omega)]
theorem cmpText_ev (s t : ByteArray) (hs : s.size ≤ 1048576) (ht : t.size ≤ 1048576) : EvP (fun k => spec_l2CmpText.f k s t) (fun r => r = cmpT s.toList t.toList) := by
  unfold spec_l2CmpText.f
  exact cmpText_loop s t hs ht s.size 0 (by omega) (by omega)
def printedB (s : ByteArray) : Bool := (List.range' 0 s.size).all (fun j => decide (32 ≤ bt s (j : Int)) && decide (bt s (j : Int) ≤ 126))
theorem specPrinted_loop (s : ByteArray) (hs : s.size ≤ 1048576) : ∀ (d i : Nat), i + d = s.size → EvP (fun k => spec_l2Printed.l0 k s (i : Int)) (fun r => r = (List.range' i d).all (fun j => decide (32 ≤ bt s (j : Int)) && decide (bt s (j : Int) ≤ 126))) := by
  intro d
  induction d with
  | zero =>
    intro i h
    refine EvP.step ?_
    simp only [spec_l2Printed.l0]
    exact EvP.neg (by omega) (EvP.now rfl)
  | succ d ih =>
    intro i h
    have hi : i < s.size := by omega
    refine EvP.step ?_
    simp only [spec_l2Printed.l0, wrap_succ hi hs]
    rw [range'_all]
    refine EvP.pos (by omega) (EvP.pos (by omega) (EvP.ite (fun h1 => EvP.now (by rw [decide_eq_false (by omega : ¬ 32 ≤ bt s (i : Int))]; rfl)) (fun h1 => EvP.ite (fun h2 => EvP.now (by rw [decide_eq_false (by omega : ¬ bt s (i : Int) ≤ 126)]; simp)) (fun h2 => ?_))))
    rw [decide_eq_true (by omega : 32 ≤ bt s (i : Int)), decide_eq_true (by omega : bt s (i : Int) ≤ 126)]
    simpa using ih (i + 1) (by omega)
theorem specPrinted_ev (s : ByteArray) (hs : s.size ≤ 1048576) : EvP (fun k => spec_l2Printed.f k s) (fun r => r = printedB s) := by
  unfold spec_l2Printed.f printedB
  exact specPrinted_loop s hs s.size 0 (by omega)
theorem implPrinted_loop (s : ByteArray) (hs : s.size ≤ 1048576) : ∀ (d i : Nat), i + d = s.size → EvP (fun k => impl_printed.l0 k s (s.size : Int) (i : Int)) (fun r => r = (List.range' i d).all (fun j => decide (32 ≤ bt s (j : Int)) && decide (bt s (j : Int) ≤ 126))) := by
  intro d
  induction d with
  | zero =>
    intro i h
    refine EvP.step ?_
    simp only [impl_printed.l0]
    exact EvP.neg (by omega) (EvP.now rfl)
  | succ d ih =>
    intro i h
    have hi : i < s.size := by omega
    refine EvP.step ?_
    simp only [impl_printed.l0, wrap_succ hi hs]
    rw [range'_all]
    refine EvP.pos (by omega) (EvP.pos (by omega) (EvP.pos (by omega) (EvP.ite (fun h1 => EvP.now (by rw [decide_eq_false (by omega : ¬ 32 ≤ bt s (i : Int))]; rfl)) (fun h1 => EvP.ite (fun h2 => EvP.now (by rw [decide_eq_false (by omega : ¬ bt s (i : Int) ≤ 126)]; simp)) (fun h2 => ?_)))))
    rw [decide_eq_true (by omega : 32 ≤ bt s (i : Int)), decide_eq_true (by omega : bt s (i : Int) ≤ 126)]
    simpa using ih (i + 1) (by omega)
theorem implPrinted_ev (s : ByteArray) (m : Int) (hm : m ≤ 1048576) : EvP (fun k => impl_printed.f k s m) (fun r => r = (decide ((s.size : Int) ≤ m) && printedB s)) := by
  unfold impl_printed.f printedB
  refine EvP.ite (fun h => EvP.now (by rw [decide_eq_false (by omega : ¬ (s.size : Int) ≤ m)]; rfl)) (fun h => ?_)
  rw [decide_eq_true (by omega : (s.size : Int) ≤ m), Bool.true_and]
  exact implPrinted_loop s (by omega) s.size 0 (by omega)
theorem l22Text_ev (s : ByteArray) (m : Int) (hm : m ≤ 1048576) : EvP (fun k => spec_l22Text.f k s m) (fun r => r = (decide ((s.size : Int) ≤ m) && printedB s)) := by
  unfold spec_l22Text.f
  refine EvP.ite (fun h => EvP.bind (specPrinted_ev s (by omega)) (fun r hr => EvP.now (by rw [hr, decide_eq_true h]; rfl))) (fun h => EvP.now (by rw [decide_eq_false h]; rfl))
end Go.Proofs.Ytcemokegafijnaa.TxtFnExactGoodBoard
