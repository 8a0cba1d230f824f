/- Lists of rising names, the program's and the reference's alike. -/
import Derived.Test.YtafphfdnoejdeaaAFnExactGoodPipe
import Derived.Test.YtafphfdnoejdeaaPFnExactGoodPipex8
import Derived.Test.YtafphfdnoejdeaaPFnExactGoodPipex9
import Derived.Test.YtafphfdnoejdeaaPFnExactGoodPipex3
import Derived.Test.YtafphfdnoejdeaaMatFnExactGoodPipe
namespace Go.Proofs.Ytafphfdnoejdeaa.NamFnExactGoodPipe
open Go.RowKit Go.Proofs.Ytafphfdnoejdeaa.PFnExactGoodPipe Go.Proofs.YtafphfdnoejdeaaW.PrintWords Go.Proofs.YtafphfdnoejdeaaW.PrintLast Go.Proofs.Ytafphfdnoejdeaa.Evs Go.Proofs.Ytafphfdnoejdeaa.AFnExactGoodPipe Go.Proofs.Ytafphfdnoejdeaa.MatFnExactGoodPipe
set_option linter.unusedVariables false
/-- The three-way comparison of two texts. -/
def cmpT (a b : List UInt8) : Int := if Op.bytesLess a b = true then -1 else if Op.bytesLess b a = true then 1 else 0
theorem less_irrefl : ∀ a : List UInt8, Op.bytesLess a a = false
 | [] => rfl
 | x :: xs => by
  simp only [Op.bytesLess, beq_self_eq_true, Bool.true_and, less_irrefl xs, Bool.or_false]
  exact decide_eq_false (UInt8.lt_irrefl x)
theorem cmpT_nil_nil : cmpT [] [] = 0 := rfl
theorem cmpT_nil_cons (b : UInt8) (y : List UInt8) : cmpT [] (b :: y) = -1 := rfl
theorem cmpT_cons_nil (a : UInt8) (x : List UInt8) : cmpT (a :: x) [] = 1 := rfl
theorem cmpT_eq (a : UInt8) (x y : List UInt8) : cmpT (a :: x) (a :: y) = cmpT x y := by
 unfold cmpT
 simp only [Op.bytesLess, beq_self_eq_true, Bool.true_and, decide_eq_false (UInt8.lt_irrefl a), Bool.false_or]
theorem cmpT_lt {a b : UInt8} (x y : List UInt8) (h : a.toNat < b.toNat) : cmpT (a :: x) (b :: y) = -1 := by
 unfold cmpT
 have : a < b := h
 simp only [Op.bytesLess, decide_eq_true this, Bool.true_or, if_true]
theorem cmpT_gt {a b : UInt8} (x y : List UInt8) (h : b.toNat < a.toNat) : cmpT (a :: x) (b :: y) = 1 := by
 unfold cmpT
 have h1 : b < a := h
 have h2 : ¬ a < b := fun h' => by have : a.toNat < b.toNat := h'; omega
 have h3 : (a == b) = false := by
  rw [beq_eq_false_iff_ne]
  intro e
  subst e
  omega
 simp only [Op.bytesLess, decide_eq_false h2, decide_eq_true h1, h3, Bool.false_and, Bool.false_or, Bool.true_or, if_true, Bool.false_eq_true, if_false]
theorem cmpT_neg (a b : List UInt8) : cmpT a b < 0 ↔ Op.bytesLess a b = true := by
 unfold cmpT
 by_cases h : Op.bytesLess a b = true
 ·rw [if_pos h]
  exact ⟨fun _ => h, fun _ => by omega⟩
 ·rw [if_neg h]
  by_cases h2 : Op.bytesLess b a = true
  ·rw [if_pos h2]
   exact ⟨fun h' => by omega, fun h' => absurd h' h⟩
  ·rw [if_neg h2]
   exact ⟨fun h' => by omega, fun h' => absurd h' h⟩
theorem bt_list (s : ByteArray) (i : Nat) (h : i < s.toList.length) : bt s (i : Int) = ((s.toList[i]'h).toNat : Int) := by
 have hs : i < s.size := by rw [← size_list]; exact h
 rw [← bt_at s (i : Int) (by simpa using hs)]
 have e : s.toList[i]'h = s[i]'hs := by
  have e2 : s.toList = s.data.toList := Lib.toList_data s
  have e3 : s.toList[i]? = some (s[i]'hs) := by
   rw [e2, Array.getElem?_toList]
   exact Array.getElem?_eq_getElem hs
  rw [List.getElem?_eq_getElem h] at e3
  exact Option.some.inj e3
 rw [e]
 rfl

theorem cmpNum_ev (a b : Int) : spec_l2CmpNum.f a b = some (if a < b then -1 else if a > b then 1 else 0) := by
 unfold spec_l2CmpNum.f
 split <;> first | rfl | (split <;> rfl)
theorem w_bt (s : ByteArray) (i : Int) : wrap64 (bt s i) = bt s i := by
 have := bt_range s i
 exact w64 (by omega) (by omega)
theorem cmpText_loop (s t : ByteArray) (hs : s.size ≤ 1048576) (ht : t.size ≤ 1048576) : ∀ (d i : Nat), i + d = s.size → i ≤ t.size → EvP (fun k => spec_l2CmpText.l0 k s t (i : Int)) (fun r => r = cmpT (s.toList.drop i) (t.toList.drop i)) := by
 have ls := size_list s
 have lt := size_list t
 intro d
 induction d with
 | zero =>
  intro i h hit
  refine EvP.step ?_
  simp only [spec_l2CmpText.l0]
  refine EvP.neg (by omega) (EvP.step ?_)
  simp only [spec_l2CmpText.j1, cmpNum_ev, Option.bind_some]
  refine EvP.neg (by simp) (EvP.now ?_)
  rw [List.drop_of_length_le (by omega : s.toList.length ≤ i)]
  by_cases hlt : i < t.toList.length
  ·rw [List.drop_eq_getElem_cons hlt, cmpT_nil_cons, if_pos (by omega)]
  ·rw [List.drop_of_length_le (by omega), cmpT_nil_nil, if_neg (by omega), if_neg (by omega)]
 | succ d ih =>
  intro i h hit
  have hi : i < s.size := by omega
  refine EvP.step ?_
  simp only [spec_l2CmpText.l0]
  refine EvP.pos (by omega) (EvP.step ?_)
  simp only [spec_l2CmpText.j1, cmpNum_ev, Option.bind_some, wrap_succ hi hs, w_bt]
  rw [List.drop_eq_getElem_cons (by omega : i < s.toList.length)]
  refine EvP.ite (fun hd => ?_) (fun hd => ?_)
  ·have hj := of_decide_eq_true hd
   have hjt : i < t.toList.length := by omega
   refine EvP.pos (by omega) (EvP.pos (by omega) (EvP.pos (by omega) ?_))
   rw [List.drop_eq_getElem_cons hjt, bt_list s i (by omega), bt_list t i hjt]
   refine EvP.ite (fun he => ?_) (fun he => EvP.now ?_)
   ·have e : s.toList[i]'(by omega) = t.toList[i]'hjt := UInt8.toNat_inj.1 (by omega)
    rw [e, cmpT_eq]
    exact ih (i + 1) (by omega) (by omega)
   ·by_cases hlt : (s.toList[i]'(by omega)).toNat < (t.toList[i]'hjt).toNat
    ·rw [cmpT_lt _ _ hlt, if_pos (by omega)]
    ·rw [cmpT_gt _ _ (by omega), if_neg (by omega), if_pos (by omega)]
  ·have hj := of_decide_eq_false (Bool.eq_false_iff.2 hd)
   refine EvP.now ?_
   rw [List.drop_of_length_le (by omega : t.toList.length ≤ i), cmpT_cons_nil, if_neg (by omega), if_pos (by omega)]
theorem cmpText_ev (s t : ByteArray) (hs : s.size ≤ 1048576) (ht : t.size ≤ 1048576) : EvP (fun k => spec_l2CmpText.f k s t) (fun r => r = cmpT s.toList t.toList) := by
 unfold spec_l2CmpText.f
 exact cmpText_loop s t hs ht s.size 0 (by omega) (by omega)
def riseAt (l : List ByteArray) (j : Nat) : Bool := Op.bytesLess (rdOf ByteArray.empty l ((j : Int) - 1)).toList (rdOf ByteArray.empty l (j : Int)).toList
def riseB (l : List ByteArray) : Bool := (List.range' 1 (l.length - 1)).all (riseAt l)
theorem prev_w {i : Nat} (h : 0 < i) (hn : i ≤ 1048576) : wrap64 ((i : Int) - 1) = (i : Int) - 1 := w64 (by omega) (by omega)
theorem rd_prev (l : List ByteArray) (i : Nat) (h0 : 0 < i) (h : i < l.length) : ∃ hj : i - 1 < l.length, rdOf ByteArray.empty l ((i : Int) - 1) = l[i - 1] := ⟨by omega, by rw [show (i : Int) - 1 = ((i - 1 : Nat) : Int) by omega, rdOf_get _ l (i - 1) (by omega)]⟩
theorem specRise_loop (l : List ByteArray) (hl : l.length ≤ 1048576) (hs : ∀ x ∈ l, x.size ≤ 1048576) : ∀ (d i : Nat), 1 ≤ i → i + d = l.length → EvP (fun k => spec_l2Rising.l0 k l (i : Int)) (fun r => r = (List.range' i d).all (riseAt l)) := by
 intro d
 induction d with
 | zero =>
  intro i h1 h
  refine EvP.step ?_
  simp only [spec_l2Rising.l0]
  exact EvP.neg (by omega) (EvP.now rfl)
 | succ d ih =>
  intro i h1 h
  have hi : i < l.length := by omega
  have hn := ih (i + 1) (by omega) (by omega)
  refine EvP.step ?_
  simp only [spec_l2Rising.l0, prev_w h1 (by omega), wrap_succ hi hl]
  rw [range'_all]
  refine EvP.pos (by omega) (EvP.pos (by omega) (EvP.pos (by omega) (EvP.pos (by omega) ?_)))
  obtain ⟨hj, hp⟩ := rd_prev l i h1 hi
  have hc := cmpText_ev (rdOf ByteArray.empty l ((i : Int) - 1)) (rdOf ByteArray.empty l (i : Int)) (by rw [hp]; exact hs _ (List.getElem_mem ..)) (by rw [rdOf_get _ l i hi]; exact hs _ (List.getElem_mem ..))
  refine EvP.bind hc (fun t e => ?_)
  have hng := cmpT_neg (rdOf ByteArray.empty l ((i : Int) - 1)).toList (rdOf ByteArray.empty l (i : Int)).toList
  rw [← e] at hng
  rw [show riseAt l i = Op.bytesLess (rdOf ByteArray.empty l ((i : Int) - 1)).toList (rdOf ByteArray.empty l (i : Int)).toList from rfl]
  cases hb : Op.bytesLess (rdOf ByteArray.empty l ((i : Int) - 1)).toList (rdOf ByteArray.empty l (i : Int)).toList with
  | true =>
   have := hng.2 hb
   exact EvP.neg (by omega) (by simpa using hn)
  | false =>
   have h0 : ¬ t < 0 := fun h => by have := hng.1 h; rw [hb] at this; exact absurd this (by decide)
   exact EvP.pos (by omega) (EvP.now rfl)
theorem specRise_ev (l : List ByteArray) (hl : l.length ≤ 1048576) (hs : ∀ x ∈ l, x.size ≤ 1048576) : EvP (fun k => spec_l2Rising.f k l) (fun r => r = riseB l) := by
 unfold spec_l2Rising.f riseB
 by_cases h : 1 ≤ l.length
 ·exact specRise_loop l hl hs (l.length - 1) 1 (by omega) (by omega)
 ·refine EvP.step ?_
  simp only [spec_l2Rising.l0]
  refine EvP.neg (by omega) (EvP.now ?_)
  rw [show l.length - 1 = 0 by omega]; rfl
theorem implRise_loop (l : List ByteArray) (hl : l.length ≤ 1048576) : ∀ (d i : Nat), 1 ≤ i → i + d = l.length → EvP (fun k => impl_rising_string.l0 k l (i : Int)) (fun r => r = (List.range' i d).all (riseAt l)) := by
 intro d
 induction d with
 | zero =>
  intro i h1 h
  refine EvP.step ?_
  simp only [impl_rising_string.l0]
  exact EvP.neg (by omega) (EvP.now rfl)
 | succ d ih =>
  intro i h1 h
  have hi : i < l.length := by omega
  have hn := ih (i + 1) (by omega) (by omega)
  refine EvP.step ?_
  simp only [impl_rising_string.l0, prev_w h1 (by omega), wrap_succ hi hl]
  rw [range'_all]
  refine EvP.pos (by omega) (EvP.pos (by omega) (EvP.pos (by omega) (EvP.pos (by omega) ?_)))
  rw [show riseAt l i = Op.bytesLess (rdOf ByteArray.empty l ((i : Int) - 1)).toList (rdOf ByteArray.empty l (i : Int)).toList from rfl]
  cases Op.bytesLess (rdOf ByteArray.empty l ((i : Int) - 1)).toList (rdOf ByteArray.empty l (i : Int)).toList with
  | true => exact EvP.pos rfl (by simpa using hn)
  | false => exact EvP.neg (by decide) (EvP.now rfl)
theorem implRise_ev (l : List ByteArray) (hl : l.length ≤ 1048576) : EvP (fun k => impl_rising_string.f k l) (fun r => r = riseB l) := by
 unfold impl_rising_string.f riseB
 by_cases h : 1 ≤ l.length
 ·exact implRise_loop l hl (l.length - 1) 1 (by omega) (by omega)
 ·refine EvP.step ?_
  simp only [impl_rising_string.l0]
  refine EvP.neg (by omega) (EvP.now ?_)
  rw [show l.length - 1 = 0 by omega]; rfl
def namesB (l : List ByteArray) : Bool := l.all nameB && (decide (l.length ≤ 10) && riseB l)
theorem name_size {s : ByteArray} (h : nameB s = true) : s.size ≤ 40 := by
 unfold nameB at h
 simp only [Bool.and_eq_true, decide_eq_true_eq] at h
 exact h.1.1.2
theorem specNames_loop (l : List ByteArray) (hl : l.length ≤ 1048576) : ∀ (d i : Nat), i + d = l.length → (∀ x ∈ l.take i, x.size ≤ 1048576) → EvP (fun k => spec_l15Names.l0 k l l (l.length : Int) (i : Int)) (fun r => r = ((l.drop i).all nameB && (decide (l.length ≤ 10) && riseB l))) := by
 intro d
 induction d with
 | zero =>
  intro i h ht
  refine EvP.step ?_
  simp only [spec_l15Names.l0]
  rw [List.take_of_length_le (by omega)] at ht
  rw [List.drop_of_length_le (by omega)]
  refine EvP.neg (by omega) (EvP.ite (fun h2 => ?_) (fun h2 => EvP.now (by rw [decide_eq_false (by omega)]; rfl)))
  rw [decide_eq_true (by omega : l.length ≤ 10)]
  exact EvP.bind (specRise_ev l hl ht) (fun t e => EvP.now (by rw [e]; rfl))
 | succ d ih =>
  intro i h ht
  have hi : i < l.length := by omega
  refine EvP.step ?_
  simp only [spec_l15Names.l0, wrap_succ hi hl, rdOf_get _ l i hi]
  rw [List.drop_eq_getElem_cons hi, List.all_cons]
  refine EvP.pos (by omega) (EvP.pos (by omega) (EvP.pos (by omega) ?_))
  refine EvP.bind (spec_l2Name_ev l[i]) (fun t e => ?_)
  cases hb : nameB l[i] with
  | false => exact EvP.neg (by rw [e, hb]; decide) (EvP.now rfl)
  | true =>
   refine EvP.pos (e.trans hb) ?_
   rw [Bool.true_and]
   refine ih (i + 1) (by omega) (fun x hx => ?_)
   rw [List.take_succ_eq_append_getElem hi, List.mem_append] at hx
   rcases hx with hx | hx
   ·exact ht x hx
   ·rw [List.mem_singleton.1 hx]
    exact Nat.le_trans (name_size hb) (by decide)
theorem specNames_ev (l : List ByteArray) (hl : l.length ≤ 1048576) : EvP (fun k => spec_l15Names.f k l) (fun r => r = namesB l) := by
 unfold spec_l15Names.f namesB
 exact specNames_loop l hl l.length 0 (by omega) (fun x hx => by simp at hx)
theorem implNames_ev (l : List ByteArray) (hl : l.length ≤ 1048576) : EvP (fun k => impl_goodNames.f k l) (fun r => r = namesB l) := by
 unfold impl_goodNames.f namesB
 refine EvP.ite (fun h => ?_) (fun h => EvP.now (by rw [decide_eq_false (by omega), Bool.false_and, Bool.and_false]))
 rw [decide_eq_true (by omega : l.length ≤ 10), Bool.true_and]
 refine EvP.bind (implRise_ev l hl) (fun t e => ?_)
 subst e
 cases riseB l with
 | false => exact EvP.neg (by decide) (EvP.now (by rw [Bool.and_false]))
 | true =>
  refine EvP.pos rfl ?_
  rw [Bool.and_true]
  refine EvP.bind (P := fun r => r = l.any (fun x => !nameB x)) ?_ (fun t e => EvP.now (by rw [e, any_not, Bool.not_not]))
  exact anyM_ev l (fun x _ => EvP.bind (impl_isName_ev x) (fun t e => EvP.now (by rw [e])))
theorem compares_eq (a : Int) : impl_compares.f a = spec_l15Compare.f a := rfl
def cmpB (a : Int) : Bool := decide (6 ≤ a) && decide (a ≤ 11)
theorem specCompare_ev (a : Int) : spec_l15Compare.f a = some (cmpB a) := by
 unfold spec_l15Compare.f cmpB
 by_cases h : a ≥ 6
 ·rw [if_pos h, decide_eq_true (by omega : 6 ≤ a), Bool.true_and]
 ·rw [if_neg h, decide_eq_false (by omega : ¬ 6 ≤ a), Bool.false_and]
end Go.Proofs.Ytafphfdnoejdeaa.NamFnExactGoodPipe
