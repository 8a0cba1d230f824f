/- The reference's PartsOf, by its own way of cutting. -/
import Derived.Test.YtpnldoegchjmmaaPartsEq
import Derived.Test.YtpnldoegchjmmaaPFnExactPartsOfx4
import Derived.Test.YtpnldoegchjmmaaPFnExactPartsOfx4
import Derived.Test.YtpnldoegchjmmaaPFnExactPartsOfx4
import Derived.Test.YtpnldoegchjmmaaPFnExactPartsOfx5
namespace Go.Proofs.Ytpnldoegchjmmaa.PartsSp
open Go.RowKit Go.Proofs.Ytpnldoegchjmmaa.PFnExactPartsOf Go.Proofs.YtpnldoegchjmmaaW.PrintWords Go.Proofs.YtpnldoegchjmmaaW.PrintLast Go.Proofs.Ytpnldoegchjmmaa.Evs Go.Proofs.Ytpnldoegchjmmaa.AFnExactPartsOf Go.Proofs.Ytpnldoegchjmmaa.PrtFnExactPartsOf Go.Proofs.Ytpnldoegchjmmaa.Form Go.Proofs.Ytpnldoegchjmmaa.FormFull Go.Proofs.Ytpnldoegchjmmaa.SortM Go.Proofs.Ytpnldoegchjmmaa.PartsEq
set_option linter.unusedVariables false
theorem num_1 {a P : Nat} (h1 : a ≤ P) (h2 : P ≤ 1000000) : wrap64 ((a : Int) + 1) = ((a + 1 : Nat) : Int) := by unfold wrap64; omega
def hasN (out : List SL) (n : ByteArray) : Bool := decide (n.data.toList ∈ out.map nameOf)
theorem hasN_false {out : List SL} {n : ByteArray} (h : hasN out n = false) : n.data.toList ∉ out.map nameOf := of_decide_eq_false h
def goodL (out : List SL) : Prop := ∀ y ∈ out, emB y.f1 = false ∧ y.f0.size ≤ 1000
/-- The three-way comparison of two texts. -/
def cmpT (a b : List UInt8) : Int := if Op.bytesLess a b = true then -1 else if Op.bytesLess b a = true then 1 else 0
theorem less_irrefl : ∀ a : List UInt8, Op.bytesLess a a = false
  | [] => rfl
  | x :: xs => by
    simp only [Op.bytesLess, beq_self_eq_true, Bool.true_and, less_irrefl xs, Bool.or_false]
    exact decide_eq_false (UInt8.lt_irrefl x)
theorem cmpT_nil_nil : cmpT [] [] = 0 := rfl
theorem cmpT_nil_cons (b : UInt8) (y : List UInt8) : cmpT [] (b :: y) = -1 := rfl
theorem cmpT_cons_nil (a : UInt8) (x : List UInt8) : cmpT (a :: x) [] = 1 := rfl
theorem cmpT_eq (a : UInt8) (x y : List UInt8) : cmpT (a :: x) (a :: y) = cmpT x y := by
  unfold cmpT
  simp only [Op.bytesLess, beq_self_eq_true, Bool.true_and, decide_eq_false (UInt8.lt_irrefl a), Bool.false_or]
theorem cmpT_lt {a b : UInt8} (x y : List UInt8) (h : a.toNat < b.toNat) : cmpT (a :: x) (b :: y) = -1 := by
  unfold cmpT
  have : a < b := h
  simp only [Op.bytesLess, decide_eq_true this, Bool.true_or, if_true]
theorem cmpT_gt {a b : UInt8} (x y : List UInt8) (h : b.toNat < a.toNat) : cmpT (a :: x) (b :: y) = 1 := by
  unfold cmpT
  have h1 : b < a := h
  have h2 : ¬ a < b := fun h' => by have : a.toNat < b.toNat := h'; omega
  have h3 : (a == b) = false := by
    rw [beq_eq_false_iff_ne]
    intro e
    subst e
    omega
  simp only [Op.bytesLess, decide_eq_false h2, decide_eq_true h1, h3, Bool.false_and, Bool.false_or, Bool.true_or, if_true, Bool.false_eq_true, if_false]
theorem cmpT_neg (a b : List UInt8) : cmpT a b < 0 ↔ Op.bytesLess a b = true := by
  unfold cmpT
  by_cases h : Op.bytesLess a b = true
  · rw [if_pos h]
    exact ⟨fun _ => h, fun _ => by omega⟩
  · rw [if_neg h]
    by_cases h2 : Op.bytesLess b a = true
    · rw [if_pos h2]
      exact ⟨fun h' => by omega, fun h' => absurd h' h⟩
    · rw [if_neg h2]
      exact ⟨fun h' => by omega, fun h' => absurd h' h⟩
theorem bt_list (s : ByteArray) (i : Nat) (h : i < s.toList.length) : bt s (i : Int) = ((s.toList[i]'h).toNat : Int) := by
  have hs : i < s.size := by rw [← size_list]; exact h
  rw [← bt_at s (i : Int) (by simpa using hs)]
  have e : s.toList[i]'h = s[i]'hs := by
    have e2 : s.toList = s.data.toList := Lib.toList_data s
    have e3 : s.toList[i]? = some (s[i]'hs) := by
      rw [e2, Array.getElem?_toList]
      exact Array.getElem?_eq_getElem hs
    rw [List.getElem?_eq_getElem h] at e3
    exact Option.some.inj e3
  rw [e]
  rfl

theorem cmpNum_ev (a b : Int) : spec_l2CmpNum.f a b = some (if a < b then -1 else if a > b then 1 else 0) := by
  unfold spec_l2CmpNum.f
  split <;> first | rfl | (split <;> rfl)
theorem w_bt (s : ByteArray) (i : Int) : wrap64 (bt s i) = bt s i := by
  have := bt_range s i
  exact w64 (by omega) (by omega)
theorem cmpText_loop (s t : ByteArray) (hs : s.size ≤ 1048576) (ht : t.size ≤ 1048576) : ∀ (d i : Nat), i + d = s.size → i ≤ t.size → EvP (fun k => spec_l2CmpText.l0 k s t (i : Int)) (fun r => r = cmpT (s.toList.drop i) (t.toList.drop i)) := by
  have ls := size_list s
  have lt := size_list t
  intro d
  induction d with
  | zero =>
    intro i h hit
    refine EvP.step ?_
    simp only [spec_l2CmpText.l0]
    refine EvP.neg (by omega) (EvP.step ?_)
    simp only [spec_l2CmpText.j1, cmpNum_ev, Option.bind_some]
    refine EvP.neg (by simp) (EvP.now ?_)
    rw [List.drop_of_length_le (by omega : s.toList.length ≤ i)]
    by_cases hlt : i < t.toList.length
    · rw [List.drop_eq_getElem_cons hlt, cmpT_nil_cons, if_pos (by omega)]
    · rw [List.drop_of_length_le (by omega), cmpT_nil_nil, if_neg (by omega), if_neg (by omega)]
  | succ d ih =>
    intro i h hit
    have hi : i < s.size := by omega
    refine EvP.step ?_
    simp only [spec_l2CmpText.l0]
    refine EvP.pos (by omega) (EvP.step ?_)
    simp only [spec_l2CmpText.j1, cmpNum_ev, Option.bind_some, wrap_succ hi hs, w_bt]
    rw [List.drop_eq_getElem_cons (by omega : i < s.toList.length)]
    refine EvP.ite (fun hd => ?_) (fun hd => ?_)
    · have hj := of_decide_eq_true hd
      have hjt : i < t.toList.length := by omega
      refine EvP.pos (by omega) (EvP.pos (by omega) (EvP.pos (by omega) ?_))
      rw [List.drop_eq_getElem_cons hjt, bt_list s i (by omega), bt_list t i hjt]
      refine EvP.ite (fun he => ?_) (fun he => EvP.now ?_)
      · have e : s.toList[i]'(by omega) = t.toList[i]'hjt := UInt8.toNat_inj.1 (by omega)
        rw [e, cmpT_eq]
        exact ih (i + 1) (by omega) (by omega)
      · by_cases hlt : (s.toList[i]'(by omega)).toNat < (t.toList[i]'hjt).toNat
        · rw [cmpT_lt _ _ hlt, if_pos (by omega)]
        · rw [cmpT_gt _ _ (by omega), if_neg (by omega), if_pos (by omega)]
    · have hj := of_decide_eq_false (Bool.eq_false_iff.2 hd)
      refine EvP.now ?_
      rw [List.drop_of_length_le (by omega : t.toList.length ≤ i), cmpT_cons_nil, if_neg (by omega), if_pos (by omega)]
theorem cmpText_ev (s t : ByteArray) (hs : s.size ≤ 1048576) (ht : t.size ≤ 1048576) : EvP (fun k => spec_l2CmpText.f k s t) (fun r => r = cmpT s.toList t.toList) := by
  unfold spec_l2CmpText.f
  exact cmpText_loop s t hs ht s.size 0 (by omega) (by omega)
theorem cmpT_cb : ∀ a b : List UInt8, cmpT a b = Lib.compareBytes a b
  | [], [] => rfl
  | [], _ :: _ => rfl
  | _ :: _, [] => rfl
  | a :: x1, b :: x2 => by
    unfold Lib.compareBytes
    by_cases h1 : a < b
    · rw [if_pos h1]; exact cmpT_lt _ _ h1
    · rw [if_neg h1]
      by_cases h2 : b < a
      · rw [if_pos h2]; exact cmpT_gt _ _ h2
      · rw [if_neg h2, u8_eq h1 h2, cmpT_eq]
        exact cmpT_cb x1 x2
theorem cmpN_ev (s t : ByteArray) (hs : s.size ≤ 1048576) (ht : t.size ≤ 1048576) : EvP (fun k => spec_l2CmpText.f k s t) (fun r => r = Lib.compareBytes s.data.toList t.data.toList) := by
  have h := cmpText_ev s t hs ht
  rw [cmpT_cb, Lib.toList_data, Lib.toList_data] at h
  exact h
theorem rdL (l : List SL) (i : Nat) (h : i < l.length) : rd_T39 l (i : Int) = l[i] := getD_get _ l i h
theorem toList_inj {a b : ByteArray} : a.toList = b.toList ↔ a.data.toList = b.data.toList := by rw [Lib.toList_data, Lib.toList_data]
theorem with_done (S : List SL) (hS : S.length ≤ 1000) (n v : ByteArray) (hn : hasN S n = false) : ∀ (d i : Nat) (acc : List SL), i + d = S.length → acc.length ≤ 2000 + i → EvP (fun k => spec_l2With.l0 k n v acc true S (S.length : Int) (i : Int)) (fun r => r = acc ++ S.drop i) := by
  intro d
  induction d with
  | zero =>
    intro i acc h ha
    refine EvP.step ?_
    simp only [spec_l2With.l0]
    rw [List.drop_of_length_le (by omega), List.append_nil]
    exact EvP.neg (by omega) (EvP.pos (by first | rfl | trivial) (EvP.now rfl))
  | succ d ih =>
    intro i acc h ha
    have hi : i < S.length := by omega
    have hne : ¬ (S[i]).f0.toList = n.toList := fun e => hasN_false hn (by rw [← toList_inj.1 e]; exact List.mem_map.2 ⟨S[i], List.getElem_mem hi, rfl⟩)
    refine EvP.step ?_
    simp only [spec_l2With.l0, rdL S i hi]
    refine EvP.pos (by omega) (EvP.pos (by omega) (EvP.pos (by omega) (EvP.pos (by first | rfl | trivial) (EvP.step ?_))))
    simp only [spec_l2With.j1, num_1 (show i ≤ S.length by omega) (show S.length ≤ 1000000 by omega)]
    have hr := ih (i + 1) (acc ++ [S[i]]) (by omega) (by rw [List.length_append]; show acc.length + 1 ≤ _; omega)
    rw [List.append_assoc, show [S[i]] ++ S.drop (i + 1) = S.drop i from (List.drop_eq_getElem_cons hi).symm] at hr
    exact EvP.neg (by decide) (EvP.neg hne (EvP.pos (by omega) hr))
theorem with_loop (S : List SL) (hS : S.length ≤ 1000) (hg : goodL S) (n v : ByteArray) (hn : hasN S n = false) (hz : n.size ≤ 1000) : ∀ (d i : Nat) (acc : List SL), i + d = S.length → acc.length ≤ i → EvP (fun k => spec_l2With.l0 k n v acc false S (S.length : Int) (i : Int)) (fun r => r = acc ++ insM ⟨n, v⟩ (S.drop i)) := by
  intro d
  induction d with
  | zero =>
    intro i acc h ha
    refine EvP.step ?_
    simp only [spec_l2With.l0]
    rw [List.drop_of_length_le (by omega)]
    exact EvP.neg (by omega) (EvP.neg (by decide) (EvP.pos (by omega) (EvP.now rfl)))
  | succ d ih =>
    intro i acc h ha
    have hi : i < S.length := by omega
    have hne : ¬ (S[i]).f0.toList = n.toList := fun e => hasN_false hn (by rw [← toList_inj.1 e]; exact List.mem_map.2 ⟨S[i], List.getElem_mem hi, rfl⟩)
    refine EvP.step ?_
    simp only [spec_l2With.l0, rdL S i hi]
    refine EvP.pos (by omega) (EvP.pos (by omega) (EvP.pos (by omega) (EvP.neg (by decide) ?_)))
    have hgz := (hg S[i] (List.getElem_mem hi)).2
    refine EvP.bind (cmpN_ev n (S[i]).f0 (by omega) (by omega)) (fun t et => ?_)
    rw [List.drop_eq_getElem_cons hi]
    have hins : insM ⟨n, v⟩ (S[i] :: S.drop (i + 1)) = if t ≤ 0 then ⟨n, v⟩ :: S[i] :: S.drop (i + 1) else S[i] :: insM ⟨n, v⟩ (S.drop (i + 1)) := by rw [et]; rfl
    rw [hins]
    refine EvP.step ?_
    simp only [spec_l2With.j1, num_1 (show i ≤ S.length by omega) (show S.length ≤ 1000000 by omega), Option.bind_some]
    by_cases ht : t ≤ 0
    · rw [if_pos ht, decide_eq_true ht]
      have hr := with_done S hS n v hn d (i + 1) ((acc ++ [⟨n, v⟩]) ++ [S[i]]) (by omega) (by rw [List.length_append, List.length_append]; show acc.length + 1 + 1 ≤ _; omega)
      rw [List.append_assoc, List.append_assoc] at hr
      have hlen : (acc ++ [(⟨n, v⟩ : SL)]).length < 4398046511104 := by rw [List.length_append]; show acc.length + 1 < _; omega
      rw [← List.append_assoc acc [(⟨n, v⟩ : SL)] [S[i]]] at hr
      exact EvP.pos (by first | rfl | trivial) (EvP.pos (by omega) (EvP.neg hne (EvP.pos hlen (by simpa using hr))))
    · rw [if_neg ht, decide_eq_false ht]
      have hr := ih (i + 1) (acc ++ [S[i]]) (by omega) (by rw [List.length_append]; exact Nat.succ_le_succ ha)
      rw [List.append_assoc] at hr
      exact EvP.neg (by decide) (EvP.neg hne (EvP.pos (by omega) hr))
theorem with_ev (S : List SL) (hS : S.length ≤ 1000) (hg : goodL S) (n v : ByteArray) (hn : hasN S n = false) (hz : n.size ≤ 1000) (hv : emB v = false) : EvP (fun k => spec_l2With.f k S n v) (fun r => r = insM ⟨n, v⟩ S) := by
  unfold spec_l2With.f
  have e : (v.toList == ([] : List UInt8)) = false := beq_eq_false_iff_ne.2 (of_decide_eq_false hv)
  rw [e]
  exact with_loop S hS hg n v hn hz S.length 0 [] (by omega) (Nat.le_refl _)
theorem specValue_ev (s : ByteArray) : EvP (fun k => spec_l2Value.f k s) (fun r => r = valueB s) := by
  unfold spec_l2Value.f valueB
  refine EvP.ite (fun h => ?_) (fun h => EvP.now ?_)
  · have he : emB s = false := by
      unfold emB
      exact decide_eq_false (fun e => by have := size_zero e; omega)
    rw [he]
    refine EvP.ite (fun h1 => ?_) (fun h1 => EvP.now (by rw [decide_eq_false h1]; rfl))
    rw [decide_eq_true h1]
    exact EvP.bind (specPrinted_ev s (by omega)) (fun t e => EvP.now (by rw [e]; rfl))
  · have he : emB s = true := by
      unfold emB
      refine decide_eq_true ?_
      rw [← List.length_eq_zero_iff, size_list]
      omega
    rw [he]; rfl
theorem value_ne {v : ByteArray} (h : valueB v = true) : emB v = false := by
  unfold valueB at h
  rw [Bool.and_eq_true, Bool.not_eq_true'] at h
  exact h.1
def holes (W : List (ByteArray × Bool)) : List (List UInt8) := (W.filter (fun q => q.2)).map (fun q => q.1.data.toList)
theorem endW_range (text : ByteArray) (at_ : Nat) (h : at_ ≤ text.size) : ∀ W, endW text at_ W < 0 ∨ ∃ e : Nat, endW text at_ W = (e : Int) ∧ at_ ≤ e ∧ e ≤ text.size
  | [] => Or.inr ⟨text.size, rfl, h, Nat.le_refl _⟩
  | q :: W => by
    show findI text q.1 at_ < 0 ∨ _
    have hs : (text.extract at_ text.size).size = text.size - at_ := by rw [ext_size]; omega
    rw [show endW text at_ (q :: W) = findI text q.1 at_ from rfl, find_ix text q.1 at_ h]
    rcases ix_cases (text.extract at_ text.size) q.1 with hx | ⟨j, hx, hr⟩
    · rw [hx, if_pos rfl]; exact Or.inl (by decide)
    · rw [hx, if_neg (by omega)]
      exact Or.inr ⟨at_ + j, by omega, by omega, by omega⟩
theorem parts_loop (text : ByteArray) (ht : text.size ≤ 500) (W : List (ByteArray × Bool)) (hW : W.length ≤ 1000) (hw : ∀ q ∈ W, 1 ≤ q.1.size ∧ q.1.size ≤ 1000) : ∀ (d i at_ : Nat) (S : List SL), i + d = W.length → at_ ≤ text.size → S.length ≤ i → goodL S → (S.map nameOf ++ holes (W.drop i)).Nodup →
    EvP (fun k => spec_l22Parts.l0 k text (W.map Prod.fst) (W.map Prod.snd) S (at_ : Int) (W.map Prod.fst) ((W.map Prod.fst).length : Int) (i : Int)) (fun r => r = finS text (specG text (W.drop i) at_ S)) := by
  intro d
  induction d with
  | zero =>
    intro i at_ S h hat hS hg hn
    refine EvP.step ?_
    simp only [spec_l22Parts.l0, List.length_map]
    rw [List.drop_of_length_le (by omega)]
    refine EvP.neg (by omega) (EvP.now ?_)
    show (S, ((at_ : Int) == (text.size : Int))) = (S, decide (at_ = text.size))
    congr 1
    by_cases e : at_ = text.size
    · rw [decide_eq_true e, e]; exact beq_self_eq_true _
    · rw [decide_eq_false e]; exact beq_eq_false_iff_ne.2 (by omega)
  | succ d ih =>
    intro i at_ S h hat hS hg hn
    have hi : i < W.length := by omega
    refine EvP.step ?_
    have g1 : rdOf false (W.map Prod.snd) (i : Int) = W[i].2 := (rdOf_get _ _ i (by rw [List.length_map]; exact hi)).trans (List.getElem_map ..)
    have g2 : rdOf ByteArray.empty (W.map Prod.fst) (i : Int) = W[i].1 := (rdOf_get _ _ i (by rw [List.length_map]; exact hi)).trans (List.getElem_map ..)
    simp only [spec_l22Parts.l0, List.length_map, num_1 (show i ≤ W.length by omega) (show W.length ≤ 1000000 by omega), head_ev, Option.bind_some, g1, g2]
    have hdrop := List.drop_eq_getElem_cons hi
    rw [hdrop] at hn ⊢
    have hwi := hw W[i] (List.getElem_mem hi)
    have hnx : ∀ hj : i + 1 < W.length, W.drop (i + 1) = W[i + 1] :: W.drop (i + 2) := fun hj => List.drop_eq_getElem_cons hj
    generalize hq : W[i] = q at hn hwi
    obtain ⟨p, b⟩ := q
    dsimp only at hwi
    refine EvP.pos (by omega) (EvP.pos (by omega) (EvP.pos (by omega) (EvP.pos (by omega) ?_)))
    cases b with
    | false =>
      refine EvP.neg Bool.false_ne_true (EvP.pos (by omega) (EvP.pos (by omega) ?_))
      rw [spec_text, Int.toNat_natCast]
      by_cases hp : preT (text.extract at_ text.size) p = true
      · rw [if_pos hp]
        have hle : at_ + p.size ≤ text.size := by
          unfold preT at hp
          simp only [Bool.and_eq_true, decide_eq_true_eq] at hp
          have := hp.1
          rw [ext_size] at this
          omega
        have hr := ih (i + 1) (at_ + p.size) S (by omega) hle (by omega) hg hn
        rw [List.length_map] at hr
        refine EvP.pos hp ?_
        rw [show wrap64 ((at_ : Int) + (p.size : Int)) = ((at_ + p.size : Nat) : Int) by unfold wrap64; omega]
        exact hr
      · rw [if_neg hp]
        exact EvP.neg hp (EvP.now rfl)
    | true =>
      refine EvP.pos rfl ?_
      have hN : holes ((p, true) :: W.drop (i + 1)) = p.data.toList :: holes (W.drop (i + 1)) := by unfold holes; rw [List.filter_cons_of_pos rfl]; rfl
      rw [hN] at hn
      have hhas : hasN S p = false := decide_eq_false (fun hm => by
        have := (List.nodup_append.1 hn).2.2 _ hm _ (List.mem_cons_self ..)
        exact this rfl)
      rw [spec_hole]
      have hj1 : ∀ E : Int, E = endW text at_ (W.drop (i + 1)) → EvP (fun k => spec_l22Parts.j1 k text (W.map Prod.fst) (W.map Prod.snd) S (at_ : Int) p E (W.map Prod.fst) ((W.length : Nat) : Int) (i : Int)) (fun r => r = finS text (if endW text at_ (W.drop (i + 1)) < 0 then none else if valueB (text.extract at_ (endW text at_ (W.drop (i + 1))).toNat) = true then specG text (W.drop (i + 1)) (endW text at_ (W.drop (i + 1))).toNat (insM ⟨p, text.extract at_ (endW text at_ (W.drop (i + 1))).toNat⟩ S) else none)) := fun E hE => by
        refine EvP.step ?_
        simp only [spec_l22Parts.j1, num_1 (show i ≤ W.length by omega) (show W.length ≤ 1000000 by omega)]
        rw [← hE]
        rcases endW_range text at_ hat (W.drop (i + 1)) with hlt | ⟨e, he, h1, h2⟩
        · rw [← hE] at hlt
          rw [if_pos hlt]
          exact EvP.pos hlt (EvP.now rfl)
        · rw [← hE] at he
          subst he
          rw [if_neg (by omega), Int.toNat_natCast, Int.toNat_natCast]
          refine EvP.neg (by omega) (EvP.pos (by omega) (EvP.pos (by omega) (EvP.pos (by omega) ?_)))
          refine EvP.bind (specValue_ev _) (fun b hb => ?_)
          subst hb
          by_cases hv : valueB (text.extract at_ e) = true
          · rw [if_pos hv]
            refine EvP.pos hv (EvP.bind (with_ev S (by omega) hg p (text.extract at_ e) hhas hwi.2 (value_ne hv)) (fun t et => ?_))
            subst et
            have hperm := insM_perm ⟨p, text.extract at_ e⟩ S
            have hr := ih (i + 1) e (insM ⟨p, text.extract at_ e⟩ S) (by omega) h2 (by rw [hperm.length_eq, List.length_cons]; omega)
              (fun y hy => by
                rcases List.mem_cons.1 (hperm.mem_iff.1 hy) with rfl | hy
                · exact ⟨value_ne hv, hwi.2⟩
                · exact hg y hy)
              (by
                have hp2 : ((insM ⟨p, text.extract at_ e⟩ S).map nameOf ++ holes (W.drop (i + 1))).Perm (S.map nameOf ++ p.data.toList :: holes (W.drop (i + 1))) := by
                  refine ((hperm.map nameOf).append_right _).trans ?_
                  rw [List.map_cons, List.cons_append]
                  exact List.perm_middle.symm
                exact hp2.symm.nodup hn)
            rw [List.length_map] at hr
            exact hr
          · rw [if_neg hv]
            exact EvP.neg hv (EvP.now rfl)
      refine EvP.ite (fun hl => ?_) (fun hl => ?_)
      · have hj : i + 1 < W.length := by omega
        have g3 : rdOf ByteArray.empty (W.map Prod.fst) ((i + 1 : Nat) : Int) = W[i + 1].1 := (rdOf_get _ _ (i + 1) (by rw [List.length_map]; exact hj)).trans (List.getElem_map ..)
        have hwj := hw W[i + 1] (List.getElem_mem hj)
        rw [g3]
        refine EvP.pos (by omega) (EvP.bind (find_ev text W[i + 1].1 (by omega) hwj.1 hwj.2 at_ hat) (fun E hE => ?_))
        refine hj1 E (hE.trans ?_)
        rw [hnx hj]
        rfl
      · refine hj1 _ ?_
        rw [List.drop_of_length_le (by omega)]
        rfl
/-! ### What a form is made of -/
structure Shape (P : Nat) (out : List SHl) : Prop where
  names : (out.map (fun h => h.f1.data.toList)).Nodup
  texts : ∀ h ∈ out.tail, ¬ h.f0.toList = []
  small : ∀ h ∈ out, h.f0.size ≤ P ∧ 1 ≤ h.f1.size ∧ h.f1.size ≤ P
theorem formL_shape (p : ByteArray) : ∀ (N x : Nat) (t : ByteArray) (out : List SHl), Shape p.size out → out.length ≤ x → t.size ≤ x → x ≤ p.size → (formL p N (x : Int) t out).2 = true → ∃ hs tl, (formL p N (x : Int) t out).1 = hs ++ [⟨tl, ⟨#[]⟩⟩] ∧ hs ≠ [] ∧ hs.length ≤ p.size ∧ tl.size ≤ p.size ∧ Shape p.size hs := by
  intro N
  induction N with
  | zero => intro x t out hs hl ht hx h; unfold formL at h; exact absurd h (by decide)
  | succ N ih =>
    intro x t out hs hl ht hx h
    by_cases hlt : x < p.size
    · rw [formL_step p N x t out hlt] at h ⊢
      by_cases hc : bt p x = 60 ∧ fok p x = true
      · rw [if_pos hc] at h ⊢
        by_cases hd : fdup p x t out = true
        · rw [if_pos hd] at h; exact absurd h (by decide)
        · rw [if_neg hd] at h ⊢
          have hroom := fok_room hlt hc.2
          have hnm : 1 ≤ (wordM (fq p x)).1.size := by
            have := hc.2
            unfold fok at this
            rw [Bool.and_eq_true] at this
            have h1 := this.1
            unfold nameB at h1
            simp only [Bool.and_eq_true, decide_eq_true_eq] at h1
            exact h1.1.1.1
          have hd2 : fdup p x t out = false := by simpa using hd
          unfold fdup at hd2
          rw [Bool.or_eq_false_iff] at hd2
          refine ih _ _ _ ⟨?_, ?_, ?_⟩ (by rw [List.length_append]; show out.length + 1 ≤ _; omega) (Nat.zero_le _) hroom h
          · rw [List.map_append, List.nodup_append]
            refine ⟨hs.names, by simp, fun a ha b hb => ?_⟩
            have hb : b = (wordM (fq p x)).1.data.toList := by simpa using hb
            rw [hb]
            intro e
            exact (of_decide_eq_false hd2.1) (e ▸ ha)
          · cases out with
            | nil => intro y hy; simp at hy
            | cons o os =>
              intro y hy
              rcases List.mem_append.1 (show y ∈ os ++ [⟨t, (wordM (fq p x)).1⟩] from hy) with hy | hy
              · exact hs.texts y hy
              · rw [List.mem_singleton.1 hy]
                intro e
                have := hd2.2
                rw [decide_eq_true e, decide_eq_true (by rw [List.length_cons]; omega)] at this
                exact absurd this (by decide)
          · intro y hy
            rcases List.mem_append.1 hy with hy | hy
            · exact hs.small y hy
            · rw [List.mem_singleton.1 hy]
              exact ⟨by show t.size ≤ _; omega, hnm, by show (wordM (fq p x)).1.size ≤ _; omega⟩
      · rw [if_neg hc] at h ⊢
        exact ih (x + 1) _ out hs (by omega) (by rw [ByteArray.size_append, ext_size]; omega) hlt h
    · have e : formL p (N + 1) (x : Int) t out = (out ++ [⟨t, ⟨#[]⟩⟩], decide (0 < out.length)) := by unfold formL; rw [if_neg (by omega)]
      rw [e] at h ⊢
      have h0 : 0 < out.length := of_decide_eq_true h
      exact ⟨out, t, rfl, fun e => by rw [e] at h0; exact absurd h0 (by decide), by omega, by omega, hs⟩
theorem formM_shape (p : ByteArray) (h : (formM p).2 = true) : ∃ hs tl, (formM p).1 = hs ++ [⟨tl, ⟨#[]⟩⟩] ∧ hs ≠ [] ∧ hs.length ≤ 100 ∧ tl.size ≤ 100 ∧ Shape 100 hs := by
  unfold formM at h ⊢
  by_cases hc : (decide (p.toList = []) || !(decide (p.size ≤ 100) && printedB p)) = true
  · rw [if_pos hc] at h; exact absurd h (by decide)
  · rw [if_neg hc] at h ⊢
    have hsz : p.size ≤ 100 := by
      simp only [Bool.or_eq_true, Bool.not_eq_true', not_or, Bool.not_eq_false, Bool.and_eq_true, decide_eq_true_eq] at hc
      exact hc.2.1
    obtain ⟨hs, tl, a, b, c, d, e⟩ := formL_shape p (p.size + 1) 0 ⟨#[]⟩ [] ⟨List.nodup_nil, by simp, by simp⟩ (Nat.le_refl _) (Nat.le_refl _) (Nat.zero_le _) h
    exact ⟨hs, tl, a, b, by omega, by omega, e.names, e.texts, fun y hy => by have := e.small y hy; omega⟩
theorem holes_enc (tl : ByteArray) : ∀ hs : List SHl, holes (encW hs tl) = hs.map (fun h => h.f1.data.toList)
  | [] => by unfold encW encF holes; split <;> rfl
  | h :: rest => by
    have ih := holes_enc tl rest
    rw [encW_fromH] at ih ⊢
    unfold fromH
    unfold holes at ih ⊢
    rw [List.filter_append, List.map_append, List.filter_cons_of_pos rfl, List.map_cons, ih, List.map_cons]
    split <;> rfl
theorem small_enc (tl : ByteArray) (htl : tl.size ≤ 100) : ∀ hs : List SHl, (∀ h ∈ hs, h.f0.size ≤ 100 ∧ 1 ≤ h.f1.size ∧ h.f1.size ≤ 100) → (encW hs tl).length ≤ 2 * hs.length + 1 ∧ ∀ q ∈ encW hs tl, 1 ≤ q.1.size ∧ q.1.size ≤ 1000
  | [], _ => by
    unfold encW encF
    split
    · exact ⟨Nat.zero_le _, fun q hq => by simp at hq⟩
    · rename_i ht
      refine ⟨Nat.le_refl _, fun q hq => ?_⟩
      have hq : q = (tl, false) := by simpa using hq
      rw [hq]
      exact ⟨size_pos ht, by show tl.size ≤ 1000; omega⟩
  | h :: rest, hh => by
    obtain ⟨a, b⟩ := small_enc tl htl rest (fun y hy => hh y (List.mem_cons_of_mem _ hy))
    have h0 := hh h (List.mem_cons_self ..)
    rw [encW_fromH] at a b ⊢
    unfold fromH
    refine ⟨?_, fun q hq => ?_⟩
    · rw [List.length_append, List.length_cons, List.length_cons]
      split
      · simp only [List.length_nil]; omega
      · simp only [List.length_cons, List.length_nil]; omega
    · rcases List.mem_append.1 hq with hq | hq
      · split at hq
        · simp at hq
        · rename_i ht
          have hq : q = (h.f0, false) := by simpa using hq
          rw [hq]
          exact ⟨size_pos ht, by show h.f0.size ≤ 1000; omega⟩
      · rcases List.mem_cons.1 hq with hq | hq
        · rw [hq]
          exact ⟨h0.2.1, by show h.f1.size ≤ 1000; omega⟩
        · exact b q hq
theorem specParts_ev (a0 a1 : ByteArray) (hf : (formM a0).2 = true) (h1 : a1.size ≤ 500) : EvP (fun k => spec_l22Parts.f k a0 a1) (fun r => r = partsM (formM a0).1 a1) := by
  obtain ⟨hs, tl, e, hne, hl, htl, sh⟩ := formM_shape a0 hf
  unfold spec_l22Parts.f
  refine EvP.bind (form_ev a0) (fun r hr => ?_)
  obtain ⟨_, hr⟩ := hr
  obtain ⟨r1, r2⟩ := hr hf
  rw [e, List.dropLast_concat, List.getLastD_concat] at r1 r2
  dsimp only at r1 r2
  rw [r1, r2, e]
  obtain ⟨s1, s2⟩ := small_enc tl htl hs sh.small
  have h := parts_loop a1 h1 (encW hs tl) (by omega) s2 (encW hs tl).length 0 0 [] (by omega) (Nat.zero_le _) (Nat.zero_le _) (by simp [goodL]) (by rw [List.map_nil, List.nil_append, List.drop_zero, holes_enc]; exact sh.names)
  rw [List.drop_zero] at h
  refine h.imp (fun q hq => hq.trans ?_)
  cases hs with
  | nil => exact absurd rfl hne
  | cons h0 rest => exact both_all a1 tl h0 rest sh.texts
theorem l22Text_ev (s : ByteArray) (m : Int) (hm : m ≤ 1048576) : EvP (fun k => spec_l22Text.f k s m) (fun r => r = (decide ((s.size : Int) ≤ m) && printedB s)) := by
  unfold spec_l22Text.f
  refine EvP.ite (fun h => ?_) (fun h => EvP.now (by rw [decide_eq_false h, Bool.false_and]))
  rw [decide_eq_true h, Bool.true_and]
  exact EvP.bind (specPrinted_ev s (by omega)) (fun t e => EvP.now e)
theorem specPartsOf_ev (a0 a1 : ByteArray) : EvP (fun k => spec_PartsOf.f k a0 a1) (fun r => r = partsOfM a0 a1) := by
  have bad : EvP (fun k => spec_PartsOf.j0 k a0 a1 true) (fun r => r = (([] : List SL), false)) := EvP.step (by simp only [spec_PartsOf.j0]; exact EvP.pos (by first | rfl | trivial) (EvP.now rfl))
  unfold spec_PartsOf.f partsOfM
  refine EvP.bind (form_ev a0) (fun r hr => ?_)
  rw [hr.1]
  cases hf : (formM a0).2 with
  | false =>
    rw [Bool.false_and, if_neg Bool.false_ne_true]
    exact EvP.neg Bool.false_ne_true bad
  | true =>
    rw [Bool.true_and]
    refine EvP.pos rfl (EvP.bind (l22Text_ev a1 500 (by omega)) (fun t et => ?_))
    subst et
    cases hb : (decide ((a1.size : Int) ≤ 500) && printedB a1) with
    | false =>
      rw [if_neg Bool.false_ne_true]
      exact bad
    | true =>
      have h1 : a1.size ≤ 500 := by
        rw [Bool.and_eq_true] at hb
        have := of_decide_eq_true hb.1
        omega
      rw [if_pos rfl]
      refine EvP.step ?_
      simp only [spec_PartsOf.j0, Bool.not_true]
      refine EvP.neg Bool.false_ne_true (EvP.bind (specParts_ev a0 a1 hf h1) (fun q hq => ?_))
      subst hq
      exact EvP.ite (fun h => EvP.now (by rw [if_pos h])) (fun h => EvP.now (by rw [if_neg h]))
theorem partsOf_len (a0 a1 : ByteArray) : (partsOfM a0 a1).1.length ≤ 200 := by
  unfold partsOfM
  by_cases hc : ((formM a0).2 && (decide ((a1.size : Int) ≤ 500) && printedB a1)) = true
  · rw [if_pos hc]
    rw [Bool.and_eq_true] at hc
    have hl := (formM_facts a0 hc.1).2.1
    by_cases h2 : (partsM (formM a0).1 a1).2 = true
    · rw [if_pos h2]
      show (partsM (formM a0).1 a1).1.length ≤ 200
      have key : ∀ (fm : List SHl) (s : ByteArray) (out : List SL) (r : List SL × ByteArray), partsG fm s out = some r → r.1.length ≤ out.length + fm.length := by
        intro fm
        induction fm with
        | nil => intro s out r h; unfold partsG at h; injection h with h; subst h; exact Nat.le_refl _
        | cons a fm ih =>
          intro s out r h
          cases fm with
          | nil => unfold partsG at h; injection h with h; subst h; exact Nat.le_add_right _ _
          | cons b fm =>
            rw [parts_two] at h
            cases hx : nextI s b.f0 with
            | none => rw [hx] at h; exact absurd h (by unfold stepP; simp)
            | some vs =>
              rw [hx] at h
              obtain ⟨v, s'⟩ := vs
              by_cases hv : valueB v = true
              · rw [step_ok _ _ _ _ _ hv] at h
                have := ih _ _ _ h
                rw [List.length_append] at this
                simp only [List.length_cons, List.length_nil] at this ⊢
                omega
              · rw [step_bad _ _ _ _ _ (by simpa using hv)] at h; exact absurd h (by simp)
      unfold partsM
      split
      · cases hg : partsG (formM a0).1 (cutP a1 (rd_T49 (formM a0).1 0).f0).1 [] with
        | none => exact Nat.zero_le _
        | some r =>
          have := key _ _ _ _ hg
          obtain ⟨o, s⟩ := r
          show (sortM o).length ≤ 200
          rw [(sortM_perm o).length_eq]
          simp only [List.length_nil] at this
          omega
      · exact Nat.zero_le _
    · rw [if_neg h2]; exact Nat.zero_le _
  · rw [if_neg hc]; exact Nat.zero_le _
end Go.Proofs.Ytpnldoegchjmmaa.PartsSp
