/- What the functions on labels and printed texts compute, the program's and the reference's alike. -/
import Derived.Test.YtiomamfegdblfaaAFnExactGoodStreams
import Derived.Test.YtiomamfegdblfaaPFnExactGoodStreamsx2
import Derived.Test.YtiomamfegdblfaaPFnExactGoodStreamsx2
import Derived.Test.YtiomamfegdblfaaPFnExactGoodStreamsx3
import Derived.Test.YtiomamfegdblfaaPFnExactGoodStreamsx3
import Derived.Test.YtiomamfegdblfaaPFnExactGoodStreamsx5
import Derived.Test.YtiomamfegdblfaaPFnExactGoodStreamsx6
import Derived.Test.YtiomamfegdblfaaPFnExactGoodStreamsx4
import Derived.Test.YtiomamfegdblfaaPFnExactGoodStreamsx3
namespace Go.Proofs.Ytiomamfegdblfaa.LabFnExactGoodStreams
open Go.RowKit Go.Proofs.Ytiomamfegdblfaa.PFnExactGoodStreams Go.Proofs.YtiomamfegdblfaaW.PrintWords Go.Proofs.YtiomamfegdblfaaW.PrintLast Go.Proofs.Ytiomamfegdblfaa.Evs Go.Proofs.Ytiomamfegdblfaa.AFnExactGoodStreams
set_option linter.unusedVariables false
abbrev SL := S49

/-- The three-way comparison of two texts. -/
def cmpT (a b : List UInt8) : Int := if Op.bytesLess a b = true then -1 else if Op.bytesLess b a = true then 1 else 0
theorem less_irrefl : ∀ a : List UInt8, Op.bytesLess a a = false
  | [] => rfl
  | x :: xs => by
    simp only [Op.bytesLess, beq_self_eq_true, Bool.true_and, less_irrefl xs, Bool.or_false]
    exact decide_eq_false (UInt8.lt_irrefl x)
theorem cmpT_nil_nil : cmpT [] [] = 0 := rfl
theorem cmpT_nil_cons (b : UInt8) (y : List UInt8) : cmpT [] (b :: y) = -1 := rfl
theorem cmpT_cons_nil (a : UInt8) (x : List UInt8) : cmpT (a :: x) [] = 1 := rfl
theorem cmpT_eq (a : UInt8) (x y : List UInt8) : cmpT (a :: x) (a :: y) = cmpT x y := by
  unfold cmpT
  simp only [Op.bytesLess, beq_self_eq_true, Bool.true_and, decide_eq_false (UInt8.lt_irrefl a), Bool.false_or]
theorem cmpT_lt {a b : UInt8} (x y : List UInt8) (h : a.toNat < b.toNat) : cmpT (a :: x) (b :: y) = -1 := by
  unfold cmpT
  have : a < b := h
  simp only [Op.bytesLess, decide_eq_true this, Bool.true_or, if_true]
theorem cmpT_gt {a b : UInt8} (x y : List UInt8) (h : b.toNat < a.toNat) : cmpT (a :: x) (b :: y) = 1 := by
  unfold cmpT
  have h1 : b < a := h
  have h2 : ¬ a < b := fun h' => by have : a.toNat < b.toNat := h'; omega
  have h3 : (a == b) = false := by
    rw [beq_eq_false_iff_ne]
    intro e
    subst e
    omega
  simp only [Op.bytesLess, decide_eq_false h2, decide_eq_true h1, h3, Bool.false_and, Bool.false_or, Bool.true_or, if_true, Bool.false_eq_true, if_false]
theorem cmpT_neg (a b : List UInt8) : cmpT a b < 0 ↔ Op.bytesLess a b = true := by
  unfold cmpT
  by_cases h : Op.bytesLess a b = true
  · rw [if_pos h]
    exact ⟨fun _ => h, fun _ => by omega⟩
  · rw [if_neg h]
    by_cases h2 : Op.bytesLess b a = true
    · rw [if_pos h2]
      exact ⟨fun h' => by omega, fun h' => absurd h' h⟩
    · rw [if_neg h2]
      exact ⟨fun h' => by omega, fun h' => absurd h' h⟩
theorem bt_list (s : ByteArray) (i : Nat) (h : i < s.toList.length) : bt s (i : Int) = ((s.toList[i]'h).toNat : Int) := by
  have hs : i < s.size := by rw [← size_list]; exact h
  rw [← bt_at s (i : Int) (by simpa using hs)]
  have e : s.toList[i]'h = s[i]'hs := by
    have e2 : s.toList = s.data.toList := Lib.toList_data s
    have e3 : s.toList[i]? = some (s[i]'hs) := by
      rw [e2, Array.getElem?_toList]
      exact Array.getElem?_eq_getElem hs
    rw [List.getElem?_eq_getElem h] at e3
    exact Option.some.inj e3
  rw [e]
  rfl

theorem cmpNum_ev (a b : Int) : spec_l2CmpNum.f a b = some (if a < b then -1 else if a > b then 1 else 0) := by
  unfold spec_l2CmpNum.f
  split <;> first | rfl | (split <;> rfl)
theorem w_bt (s : ByteArray) (i : Int) : wrap64 (bt s i) = bt s i := by
  have := bt_range s i
  exact w64 (by omega) (by omega)
theorem cmpText_loop (s t : ByteArray) (hs : s.size ≤ 1048576) (ht : t.size ≤ 1048576) : ∀ (d i : Nat), i + d = s.size → i ≤ t.size → EvP (fun k => spec_l2CmpText.l0 k s t (i : Int)) (fun r => r = cmpT (s.toList.drop i) (t.toList.drop i)) := by
  have ls := size_list s
  have lt := size_list t
  intro d
  induction d with
  | zero =>
    intro i h hit
    refine EvP.step ?_
    simp only [spec_l2CmpText.l0]
    refine EvP.neg (by omega) (EvP.step ?_)
    simp only [spec_l2CmpText.j1, cmpNum_ev, Option.bind_some]
    refine EvP.neg (by simp) (EvP.now ?_)
    rw [List.drop_of_length_le (by omega : s.toList.length ≤ i)]
    by_cases hlt : i < t.toList.length
    · rw [List.drop_eq_getElem_cons hlt, cmpT_nil_cons, if_pos (by omega)]
    · rw [List.drop_of_length_le (by omega), cmpT_nil_nil, if_neg (by omega), if_neg (by omega)]
  | succ d ih =>
    intro i h hit
    have hi : i < s.size := by omega
    refine EvP.step ?_
    simp only [spec_l2CmpText.l0]
    refine EvP.pos (by omega) (EvP.step ?_)
    simp only [spec_l2CmpText.j1, cmpNum_ev, Option.bind_some, wrap_succ hi hs, w_bt]
    rw [List.drop_eq_getElem_cons (by omega : i < s.toList.length)]
    refine EvP.ite (fun hd => ?_) (fun hd => ?_)
    · have hj := of_decide_eq_true hd
      have hjt : i < t.toList.length := by omega
      refine EvP.pos (by omega) (EvP.pos (by omega) (EvP.pos (by omega) ?_))
      rw [List.drop_eq_getElem_cons hjt, bt_list s i (by omega), bt_list t i hjt]
      refine EvP.ite (fun he => ?_) (fun he => EvP.now ?_)
      · have e : s.toList[i]'(by omega) = t.toList[i]'hjt := UInt8.toNat_inj.1 (by omega)
        rw [e, cmpT_eq]
        exact ih (i + 1) (by omega) (by omega)
      · by_cases hlt : (s.toList[i]'(by omega)).toNat < (t.toList[i]'hjt).toNat
        · rw [cmpT_lt _ _ hlt, if_pos (by omega)]
        · rw [cmpT_gt _ _ (by omega), if_neg (by omega), if_pos (by omega)]
    · have hj := of_decide_eq_false (Bool.eq_false_iff.2 hd)
      refine EvP.now ?_
      rw [List.drop_of_length_le (by omega : t.toList.length ≤ i), cmpT_cons_nil, if_neg (by omega), if_pos (by omega)]
theorem cmpText_ev (s t : ByteArray) (hs : s.size ≤ 1048576) (ht : t.size ≤ 1048576) : EvP (fun k => spec_l2CmpText.f k s t) (fun r => r = cmpT s.toList t.toList) := by
  unfold spec_l2CmpText.f
  exact cmpText_loop s t hs ht s.size 0 (by omega) (by omega)
theorem cmpS_ev (s t : ByteArray) : cmp_Compare_string.f s t = some (cmpT s.toList t.toList) := by
  unfold cmp_Compare_string.f cmp_isNaN_string.f cmpT
  simp only [Option.bind_some, bne_self_eq_false, Bool.false_eq_true, if_false]
  split <;> first | rfl | (split <;> rfl)
theorem cmpI_ev (a b : Int) : cmp_Compare_int.f a b = some (if a < b then -1 else if a > b then 1 else 0) := by
  unfold cmp_Compare_int.f cmp_isNaN_int.f
  simp only [Option.bind_some, bne_self_eq_false, Bool.false_eq_true, if_false]
  split <;> first | rfl | (split <;> rfl)
theorem or2_ev (a b : Int) : EvP (fun k => cmp_Or_int.f k [a, b]) (fun r => r = if a = 0 then b else a) := by
  unfold cmp_Or_int.f
  refine EvP.step ?_
  simp only [cmp_Or_int.l0, List.length_cons, List.length_nil]
  refine EvP.pos (by omega) (EvP.pos (by omega) (EvP.pos (by omega) ?_))
  rw [show rd [a, b] 0 = a from rfl]
  refine EvP.ite (fun h => ?_) (fun h => EvP.now (by rw [if_neg h]))
  rw [show wrap64 (0 + 1) = 1 from w64 (by omega) (by omega)]
  refine EvP.step ?_
  simp only [cmp_Or_int.l0, List.length_cons, List.length_nil]
  refine EvP.pos (by omega) (EvP.pos (by omega) (EvP.pos (by omega) ?_))
  rw [show rd [a, b] 1 = b from rfl, if_pos h]
  refine EvP.ite (fun h2 => ?_) (fun h2 => EvP.now rfl)
  rw [show wrap64 (1 + 1) = 2 from w64 (by omega) (by omega)]
  refine EvP.step ?_
  simp only [cmp_Or_int.l0, List.length_cons, List.length_nil]
  exact EvP.neg (by omega) (EvP.now h2.symm)

/-- The three-way comparison of two lists of labels. -/
def cmpL : List SL → List SL → Int
  | [], [] => 0
  | [], _ :: _ => -1
  | _ :: _, [] => 1
  | x :: xs, y :: ys => if cmpT x.f0.toList y.f0.toList = 0 then (if cmpT x.f1.toList y.f1.toList = 0 then cmpL xs ys else cmpT x.f1.toList y.f1.toList) else cmpT x.f0.toList y.f0.toList
/-- Each text of a label is as long as the law lets in. -/
def smallL (l : List SL) : Prop := l.length ≤ 1048576 ∧ ∀ x ∈ l, x.f0.size ≤ 1048576 ∧ x.f1.size ≤ 1048576
theorem rdL (l : List SL) (i : Nat) (h : i < l.length) : rd_T49 l (i : Int) = l[i] := getD_get _ l i h
theorem specCmp_loop (a b : List SL) (ha : smallL a) (hb : smallL b) : ∀ (d i : Nat), i + d = a.length → i ≤ b.length → EvP (fun k => spec_l2Cmp.l0 k a b (i : Int)) (fun r => r = cmpL (a.drop i) (b.drop i)) := by
  intro d
  induction d with
  | zero =>
    intro i h hit
    refine EvP.step ?_
    simp only [spec_l2Cmp.l0]
    refine EvP.neg (by omega) (EvP.step ?_)
    simp only [spec_l2Cmp.j1, cmpNum_ev, Option.bind_some]
    refine EvP.neg (by simp) (EvP.now ?_)
    rw [List.drop_of_length_le (by omega : a.length ≤ i)]
    by_cases hlt : i < b.length
    · rw [List.drop_eq_getElem_cons hlt, if_pos (by omega)]
      rfl
    · rw [List.drop_of_length_le (by omega), if_neg (by omega), if_neg (by omega)]
      rfl
  | succ d ih =>
    intro i h hit
    have hi : i < a.length := by omega
    refine EvP.step ?_
    simp only [spec_l2Cmp.l0]
    refine EvP.pos (by omega) (EvP.step ?_)
    simp only [spec_l2Cmp.j1, cmpNum_ev, Option.bind_some, wrap_succ hi ha.1, rdL a i hi]
    rw [List.drop_eq_getElem_cons hi]
    refine EvP.ite (fun hd => ?_) (fun hd => ?_)
    · have hj := of_decide_eq_true hd
      have hjt : i < b.length := by omega
      refine EvP.pos (by omega) (EvP.pos (by omega) (EvP.pos (by omega) ?_))
      simp only [rdL b i hjt]
      rw [List.drop_eq_getElem_cons hjt]
      have sa := ha.2 a[i] (List.getElem_mem hi)
      have sb := hb.2 b[i] (List.getElem_mem hjt)
      refine EvP.bind (cmpText_ev _ _ sa.1 sb.1) (fun r hr => ?_)
      subst hr
      simp only [cmpL]
      refine EvP.ite (fun h0 => ?_) (fun h0 => EvP.now (by rw [if_neg h0]))
      rw [if_pos h0]
      refine EvP.bind (cmpText_ev _ _ sa.2 sb.2) (fun r hr => ?_)
      subst hr
      refine EvP.ite (fun h1 => ?_) (fun h1 => EvP.now (by rw [if_neg h1]))
      rw [if_pos h1]
      exact ih (i + 1) (by omega) (by omega)
    · have hj := of_decide_eq_false (Bool.eq_false_iff.2 hd)
      refine EvP.now ?_
      rw [List.drop_of_length_le (by omega : b.length ≤ i), if_neg (by omega), if_pos (by omega)]
      rfl
theorem specCmp_ev (a b : List SL) (ha : smallL a) (hb : smallL b) : EvP (fun k => spec_l2Cmp.f k a b) (fun r => r = cmpL a b) := by
  unfold spec_l2Cmp.f
  exact specCmp_loop a b ha hb a.length 0 (by omega) (by omega)
theorem implCmp_loop (a b : List SL) (n : Nat) (hn : (n : Int) = mn (a.length : Int) (b.length : Int)) (ha : a.length ≤ 1048576) : ∀ (d i : Nat), i + d = n → EvP (fun k => impl_compare.l0 k a b (n : Int) (i : Int)) (fun r => r = cmpL (a.drop i) (b.drop i)) := by
  have h1 : n ≤ a.length := by unfold mn at hn; split at hn <;> omega
  have h2 : n ≤ b.length := by unfold mn at hn; split at hn <;> omega
  have h3 : n = a.length ∨ n = b.length := by unfold mn at hn; split at hn <;> omega
  intro d
  induction d with
  | zero =>
    intro i h
    refine EvP.step ?_
    simp only [impl_compare.l0, cmpI_ev, Option.bind_some]
    refine EvP.neg (by omega) (EvP.now ?_)
    obtain rfl : i = n := by omega
    by_cases hla : i < a.length
    · rw [List.drop_eq_getElem_cons hla, List.drop_of_length_le (by omega : b.length ≤ i), if_neg (by omega), if_pos (by omega)]
      rfl
    · rw [List.drop_of_length_le (by omega : a.length ≤ i)]
      by_cases hlb : i < b.length
      · rw [List.drop_eq_getElem_cons hlb, if_pos (by omega)]
        rfl
      · rw [List.drop_of_length_le (by omega), if_neg (by omega), if_neg (by omega)]
        rfl
  | succ d ih =>
    intro i h
    have hi : i < a.length := by omega
    have hj : i < b.length := by omega
    refine EvP.step ?_
    simp only [impl_compare.l0, cmpS_ev, Option.bind_some, wrap_succ hi ha, rdL a i hi, rdL b i hj]
    refine EvP.pos (by omega) (EvP.pos (by omega) (EvP.pos (by omega) (EvP.pos (by omega) ?_)))
    rw [List.drop_eq_getElem_cons hi, List.drop_eq_getElem_cons hj]
    refine EvP.bind (or2_ev _ _) (fun r hr => ?_)
    subst hr
    simp only [cmpL]
    by_cases h0 : cmpT a[i].f0.toList b[i].f0.toList = 0
    · rw [if_pos h0, if_pos h0]
      refine EvP.ite (fun h1 => ?_) (fun h1 => EvP.now (by rw [if_neg h1]))
      rw [if_pos h1]
      exact ih (i + 1) (by omega)
    · rw [if_neg h0, if_neg h0]
      exact EvP.neg h0 (EvP.now rfl)
theorem implCmp_ev (a b : List SL) (ha : a.length ≤ 1048576) : EvP (fun k => impl_compare.f k a b) (fun r => r = cmpL a b) := by
  unfold impl_compare.f
  obtain ⟨n, hn⟩ : ∃ n : Nat, (n : Int) = mn (a.length : Int) (b.length : Int) := by
    unfold mn
    split
    · exact ⟨_, rfl⟩
    · exact ⟨_, rfl⟩
  rw [← hn]
  exact implCmp_loop a b n hn ha n 0 (by omega)

/-- Printed: from the space to the tilde. -/
def printedB (s : ByteArray) : Bool := (List.range' 0 s.size).all (fun j => decide (32 ≤ bt s (j : Int)) && decide (bt s (j : Int) ≤ 126))
def valueB (s : ByteArray) : Bool := decide (1 ≤ s.size) && decide (s.size ≤ 100) && printedB s
theorem specPrinted_loop (s : ByteArray) (hs : s.size ≤ 1048576) : ∀ (d i : Nat), i + d = s.size → EvP (fun k => spec_l2Printed.l0 k s (i : Int)) (fun r => r = (List.range' i d).all (fun j => decide (32 ≤ bt s (j : Int)) && decide (bt s (j : Int) ≤ 126))) := by
  intro d
  induction d with
  | zero =>
    intro i h
    refine EvP.step ?_
    simp only [spec_l2Printed.l0]
    exact EvP.neg (by omega) (EvP.now rfl)
  | succ d ih =>
    intro i h
    have hi : i < s.size := by omega
    refine EvP.step ?_
    simp only [spec_l2Printed.l0, wrap_succ hi hs]
    rw [range'_all]
    refine EvP.pos (by omega) (EvP.pos (by omega) (EvP.ite (fun h1 => EvP.now (by rw [decide_eq_false (by omega : ¬ 32 ≤ bt s (i : Int))]; rfl)) (fun h1 => EvP.ite (fun h2 => EvP.now (by rw [decide_eq_false (by omega : ¬ bt s (i : Int) ≤ 126)]; simp)) (fun h2 => ?_))))
    rw [decide_eq_true (by omega : 32 ≤ bt s (i : Int)), decide_eq_true (by omega : bt s (i : Int) ≤ 126)]
    simpa using ih (i + 1) (by omega)
theorem specPrinted_ev (s : ByteArray) (hs : s.size ≤ 1048576) : EvP (fun k => spec_l2Printed.f k s) (fun r => r = printedB s) := by
  unfold spec_l2Printed.f printedB
  exact specPrinted_loop s hs s.size 0 (by omega)
theorem implPrinted_loop (s : ByteArray) (hs : s.size ≤ 1048576) : ∀ (d i : Nat), i + d = s.size → EvP (fun k => impl_printed.l0 k s (s.size : Int) (i : Int)) (fun r => r = (List.range' i d).all (fun j => decide (32 ≤ bt s (j : Int)) && decide (bt s (j : Int) ≤ 126))) := by
  intro d
  induction d with
  | zero =>
    intro i h
    refine EvP.step ?_
    simp only [impl_printed.l0]
    exact EvP.neg (by omega) (EvP.now rfl)
  | succ d ih =>
    intro i h
    have hi : i < s.size := by omega
    refine EvP.step ?_
    simp only [impl_printed.l0, wrap_succ hi hs]
    rw [range'_all]
    refine EvP.pos (by omega) (EvP.pos (by omega) (EvP.pos (by omega) (EvP.ite (fun h1 => EvP.now (by rw [decide_eq_false (by omega : ¬ 32 ≤ bt s (i : Int))]; rfl)) (fun h1 => EvP.ite (fun h2 => EvP.now (by rw [decide_eq_false (by omega : ¬ bt s (i : Int) ≤ 126)]; simp)) (fun h2 => ?_)))))
    rw [decide_eq_true (by omega : 32 ≤ bt s (i : Int)), decide_eq_true (by omega : bt s (i : Int) ≤ 126)]
    simpa using ih (i + 1) (by omega)
theorem implPrinted_ev (s : ByteArray) (m : Int) (hm : m ≤ 1048576) : EvP (fun k => impl_printed.f k s m) (fun r => r = (decide ((s.size : Int) ≤ m) && printedB s)) := by
  unfold impl_printed.f printedB
  refine EvP.ite (fun h => EvP.now (by rw [decide_eq_false (by omega : ¬ (s.size : Int) ≤ m)]; rfl)) (fun h => ?_)
  rw [decide_eq_true (by omega : (s.size : Int) ≤ m), Bool.true_and]
  exact implPrinted_loop s (by omega) s.size 0 (by omega)
theorem l22Text_ev (s : ByteArray) (m : Int) (hm : m ≤ 1048576) : EvP (fun k => spec_l22Text.f k s m) (fun r => r = (decide ((s.size : Int) ≤ m) && printedB s)) := by
  unfold spec_l22Text.f
  refine EvP.ite (fun h => EvP.bind (specPrinted_ev s (by omega)) (fun r hr => EvP.now (by rw [hr, decide_eq_true h]; rfl))) (fun h => EvP.now (by rw [decide_eq_false h]; rfl))
theorem specValue_ev (s : ByteArray) : EvP (fun k => spec_l2Value.f k s) (fun r => r = valueB s) := by
  unfold spec_l2Value.f valueB
  refine EvP.ite (fun h => EvP.ite (fun h2 => EvP.bind (specPrinted_ev s (by omega)) (fun r hr => EvP.now ?_)) (fun h2 => EvP.now ?_)) (fun h => EvP.now ?_)
  · rw [hr, decide_eq_true (by omega : 1 ≤ s.size), decide_eq_true (by omega : s.size ≤ 100)]
    rfl
  · rw [decide_eq_false (by omega : ¬ s.size ≤ 100)]
    simp
  · rw [decide_eq_false (by omega : ¬ 1 ≤ s.size)]
    rfl
theorem implValue_ev (s : ByteArray) : EvP (fun k => impl_isValue.f k s) (fun r => r = valueB s) := by
  unfold impl_isValue.f valueB
  refine EvP.ite (fun h => EvP.now ?_) (fun h => EvP.bind (implPrinted_ev s 100 (by omega)) (fun r hr => EvP.now ?_))
  · have := size_zero h
    rw [decide_eq_false (by omega : ¬ 1 ≤ s.size)]
    rfl
  · have := size_pos h
    rw [hr, decide_eq_true (by omega : 1 ≤ s.size), Bool.true_and]
    congr 1
    exact decide_eq_decide.2 (by omega)

def labelOk (l : List SL) (i : Nat) : Bool := nameB (rd_T49 l (i : Int)).f0 && valueB (rd_T49 l (i : Int)).f1 && (decide (i = 0) || Op.bytesLess (rd_T49 l ((i : Int) - 1)).f0.toList (rd_T49 l (i : Int)).f0.toList)
def labelsB (l : List SL) : Bool := decide (l.length ≤ 20) && (List.range' 0 l.length).all (labelOk l)
theorem prev_w {i : Nat} (h : 0 < i) (hn : i ≤ 1048576) : wrap64 ((i : Int) - 1) = (i : Int) - 1 := w64 (by omega) (by omega)
theorem rdL_prev (l : List SL) (i : Nat) (h0 : 0 < i) (h : i < l.length) : ∃ hj : i - 1 < l.length, rd_T49 l ((i : Int) - 1) = l[i - 1] := ⟨by omega, by rw [show (i : Int) - 1 = ((i - 1 : Nat) : Int) by omega, rdL l (i - 1) (by omega)]⟩
theorem specLabels_loop (l : List SL) (hl : l.length ≤ 20) (hs : smallL l) : ∀ (d i : Nat), i + d = l.length → EvP (fun k => spec_GoodLabels.l0 k l l (l.length : Int) (i : Int)) (fun r => r = (List.range' i d).all (labelOk l)) := by
  intro d
  induction d with
  | zero =>
    intro i h
    refine EvP.step ?_
    simp only [spec_GoodLabels.l0]
    exact EvP.neg (by omega) (EvP.now rfl)
  | succ d ih =>
    intro i h
    have hi : i < l.length := by omega
    have hn := ih (i + 1) (by omega)
    refine EvP.step ?_
    simp only [spec_GoodLabels.l0, wrap_succ hi hs.1]
    rw [range'_all]
    refine EvP.pos (by omega) (EvP.pos (by omega) (EvP.pos (by omega) ?_))
    refine EvP.bind (spec_l2Name_ev _) (fun r hr => ?_)
    subst hr
    unfold labelOk
    refine EvP.ite (fun h1 => ?_) (fun h1 => EvP.now (by rw [Bool.eq_false_iff.2 h1]; rfl))
    rw [h1, Bool.true_and]
    refine EvP.bind (specValue_ev _) (fun r hr => ?_)
    subst hr
    refine EvP.ite (fun h2 => ?_) (fun h2 => EvP.now (by rw [Bool.eq_false_iff.2 h2]; rfl))
    rw [h2, Bool.true_and]
    refine EvP.ite (fun h3 => ?_) (fun h3 => ?_)
    · rw [prev_w (by omega) (by omega), decide_eq_false (by omega : ¬ i = 0), Bool.false_or]
      refine EvP.pos (by omega) (EvP.pos (by omega) ?_)
      obtain ⟨hj, e⟩ := rdL_prev l i (by omega) hi
      refine EvP.bind (cmpText_ev _ _ (by rw [e]; exact (hs.2 _ (List.getElem_mem hj)).1) (by rw [rdL l i hi]; exact (hs.2 _ (List.getElem_mem hi)).1)) (fun r hr => ?_)
      subst hr
      have hc := cmpT_neg (rd_T49 l ((i : Int) - 1)).f0.toList (rd_T49 l (i : Int)).f0.toList
      refine EvP.ite (fun h4 => EvP.now ?_) (fun h4 => ?_)
      · rw [show Op.bytesLess (rd_T49 l ((i : Int) - 1)).f0.toList (rd_T49 l (i : Int)).f0.toList = false from Bool.eq_false_iff.2 (fun h5 => by have := hc.2 h5; omega)]
        rfl
      · rw [hc.1 (by omega), Bool.true_and]
        exact hn
    · rw [decide_eq_true (by omega : i = 0), Bool.true_or, Bool.true_and]
      exact hn
theorem specLabels_ev (l : List SL) (hs : smallL l) : EvP (fun k => spec_GoodLabels.f k l) (fun r => r = labelsB l) := by
  unfold spec_GoodLabels.f labelsB
  refine EvP.ite (fun h => EvP.now (by rw [decide_eq_false (by omega : ¬ l.length ≤ 20)]; rfl)) (fun h => ?_)
  rw [decide_eq_true (by omega : l.length ≤ 20), Bool.true_and]
  exact specLabels_loop l (by omega) hs l.length 0 (by omega)
theorem implLabels_loop (l : List SL) (hl : l.length ≤ 20) : ∀ (d i : Nat), i + d = l.length → EvP (fun k => impl_GoodLabels.l0 k l l (l.length : Int) (i : Int)) (fun r => r = (List.range' i d).all (labelOk l)) := by
  intro d
  induction d with
  | zero =>
    intro i h
    refine EvP.step ?_
    simp only [impl_GoodLabels.l0]
    exact EvP.neg (by omega) (EvP.now rfl)
  | succ d ih =>
    intro i h
    have hi : i < l.length := by omega
    have hn := ih (i + 1) (by omega)
    refine EvP.step ?_
    simp only [impl_GoodLabels.l0, wrap_succ hi (by omega : l.length ≤ 1048576)]
    rw [range'_all]
    refine EvP.pos (by omega) (EvP.pos (by omega) (EvP.pos (by omega) ?_))
    refine EvP.bind (impl_isName_ev _) (fun r hr => ?_)
    subst hr
    unfold labelOk
    refine EvP.ite (fun h1 => ?_) (fun h1 => EvP.now (by rw [Bool.eq_false_iff.2 h1]; rfl))
    rw [h1, Bool.true_and]
    refine EvP.bind (implValue_ev _) (fun r hr => ?_)
    subst hr
    refine EvP.ite (fun h2 => ?_) (fun h2 => EvP.now (by rw [Bool.eq_false_iff.2 h2]; rfl))
    rw [h2, Bool.true_and]
    refine EvP.ite (fun h3 => ?_) (fun h3 => ?_)
    · rw [prev_w (by omega) (by omega), decide_eq_false (by omega : ¬ i = 0), Bool.false_or]
      refine EvP.pos (by omega) (EvP.pos (by omega) ?_)
      refine EvP.ite (fun h4 => ?_) (fun h4 => EvP.now (by rw [Bool.eq_false_iff.2 h4]; rfl))
      rw [h4, Bool.true_and]
      exact hn
    · rw [decide_eq_true (by omega : i = 0), Bool.true_or, Bool.true_and]
      exact hn
theorem implLabels_ev (l : List SL) : EvP (fun k => impl_GoodLabels.f k l) (fun r => r = labelsB l) := by
  unfold impl_GoodLabels.f labelsB
  refine EvP.ite (fun h => EvP.now (by rw [decide_eq_false (by omega : ¬ l.length ≤ 20)]; rfl)) (fun h => ?_)
  rw [decide_eq_true (by omega : l.length ≤ 20), Bool.true_and]
  exact implLabels_loop l (by omega) l.length 0 (by omega)
end Go.Proofs.Ytiomamfegdblfaa.LabFnExactGoodStreams
