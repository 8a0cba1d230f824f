/- The reference's list of pairs: kept in order, a pair put in at a time. -/
import Derived.Test.YtgdekdcbfnghoaaPairsEq
import Derived.Test.YtgdekdcbfnghoaaPFnExactPairsOfx5
import Derived.Test.YtgdekdcbfnghoaaPFnExactPairsOfx5
import Derived.Test.YtgdekdcbfnghoaaPFnExactPairsOfx3
import Derived.Test.YtgdekdcbfnghoaaPFnExactPairsOfx7
namespace Go.Proofs.Ytgdekdcbfnghoaa.PairsSp
open Go.RowKit Go.Proofs.Ytgdekdcbfnghoaa.PFnExactPairsOf Go.Proofs.YtgdekdcbfnghoaaW.PrintWords Go.Proofs.YtgdekdcbfnghoaaW.PrintLast Go.Proofs.Ytgdekdcbfnghoaa.Evs Go.Proofs.Ytgdekdcbfnghoaa.AFnExactPairsOf Go.Proofs.Ytgdekdcbfnghoaa.PrtFnExactPairsOf Go.Proofs.Ytgdekdcbfnghoaa.Pairs Go.Proofs.Ytgdekdcbfnghoaa.PairsEq
set_option linter.unusedVariables false
/-! ### Where a name ends -/
def wEndD (q : ByteArray) : Nat → Nat → Nat
  | 0, j => j
  | d + 1, j => if wordC (bt q (j : Int)) then wEndD q d (j + 1) else j
def wEnd (q : ByteArray) : Nat := wEndD q q.size 0
theorem wordC_eq (c : Int) : wordC c = (letC c || (digC c || (c == 95))) := by unfold wordC; rw [Bool.or_assoc]
theorem wEndD_spec (q : ByteArray) : ∀ d j, j + d = q.size → j ≤ wEndD q d j ∧ wEndD q d j ≤ q.size ∧ (∀ k, j ≤ k → k < wEndD q d j → wordC (bt q (k : Int)) = true) ∧ (wEndD q d j < q.size → wordC (bt q (wEndD q d j : Int)) = false)
  | 0, j, h => ⟨Nat.le_refl _, by unfold wEndD; omega, fun k h1 h2 => by unfold wEndD at h2; omega, fun h1 => by unfold wEndD at h1; omega⟩
  | d + 1, j, h => by
    unfold wEndD
    by_cases hc : wordC (bt q (j : Int)) = true
    · rw [if_pos hc]
      obtain ⟨a, b, c, e⟩ := wEndD_spec q d (j + 1) (by omega)
      exact ⟨by omega, b, fun k h1 h2 => by
        by_cases hk : k = j
        · rw [hk]; exact hc
        · exact c k (by omega) h2, e⟩
    · rw [if_neg hc]
      exact ⟨Nat.le_refl _, by omega, fun k h1 h2 => by omega, fun _ => by simpa using hc⟩
theorem wEnd_spec (q : ByteArray) : wEnd q ≤ q.size ∧ (∀ k, k < wEnd q → wordC (bt q (k : Int)) = true) ∧ (wEnd q < q.size → wordC (bt q (wEnd q : Int)) = false) := by
  obtain ⟨_, b, c, e⟩ := wEndD_spec q q.size 0 (by omega)
  exact ⟨b, fun k h => c k (Nat.zero_le _) h, e⟩
theorem nameAt_loop (p : ByteArray) (hp : p.size ≤ 1000000) : ∀ (d j : Nat), j + d = p.size → EvP (fun k => spec_l2NameAt.l0 k p (j : Int)) (fun r => r = (wEndD p d j : Int)) := by
  intro d
  induction d with
  | zero =>
    intro j h
    refine EvP.step ?_
    simp only [spec_l2NameAt.l0]
    exact EvP.neg (by omega) (EvP.now rfl)
  | succ d ih =>
    intro j h
    have hn := ih (j + 1) (by omega)
    refine EvP.step ?_
    simp only [spec_l2NameAt.l0, spec_l2Letter_ev, spec_l2Digit_ev, Option.bind_some, num_1 (show j ≤ p.size by omega) hp]
    refine EvP.pos (by omega) (EvP.pos (by omega) ?_)
    unfold wEndD
    rw [wordC_eq]
    generalize bt p (j : Int) = c
    cases letC c with
    | true => exact EvP.pos rfl hn
    | false =>
      refine EvP.neg (by decide) ?_
      cases digC c with
      | true => exact EvP.pos rfl hn
      | false =>
        refine EvP.neg (by decide) ?_
        by_cases h9 : c = 95
        · rw [beq_iff_eq.2 h9]
          exact EvP.pos h9 hn
        · rw [beq_eq_false_iff_ne.2 h9]
          exact EvP.neg h9 (EvP.now rfl)
theorem nameAt_ev (p : ByteArray) (hp : p.size ≤ 1000000) : EvP (fun k => spec_l2NameAt.f k p 0) (fun r => r = (wEnd p : Int)) := by
  unfold spec_l2NameAt.f wEnd
  exact nameAt_loop p hp p.size 0 (by omega)
/-! ### The first sign of equality -/
theorem idx_at : ∀ (l : List UInt8) (c : UInt8) (i : Nat), l[i]? = some c → (∀ j, j < i → l[j]? ≠ some c) → Lib.indexByte l c = (i : Int)
  | [], c, i, h, _ => by simp at h
  | b :: l, c, 0, h, _ => by
    have e : b = c := by simpa using h
    unfold Lib.indexByte
    rw [if_pos (by rw [e]; exact beq_self_eq_true c)]
    rfl
  | b :: l, c, i + 1, h, hn => by
    have hb : b ≠ c := fun e => hn 0 (by omega) (by rw [e]; rfl)
    have ih := idx_at l c i (by simpa using h) (fun j hj hh => hn (j + 1) (by omega) (by simpa using hh))
    unfold Lib.indexByte
    rw [if_neg (by simpa using hb), ih, if_neg (by rw [beq_iff_eq]; omega)]
    rfl
theorem idx_inv : ∀ (l : List UInt8) (c : UInt8) (i : Nat), Lib.indexByte l c = (i : Int) → l[i]? = some c ∧ (∀ j, j < i → l[j]? ≠ some c)
  | [], c, i, h => by unfold Lib.indexByte at h; omega
  | b :: l, c, i, h => by
    unfold Lib.indexByte at h
    by_cases hb : (b == c) = true
    · rw [if_pos hb] at h
      have : i = 0 := by omega
      subst this
      exact ⟨by rw [beq_iff_eq.1 hb]; rfl, fun j hj => by omega⟩
    · rw [if_neg hb] at h
      by_cases hm : (Lib.indexByte l c == -1) = true
      · rw [if_pos hm] at h; omega
      · rw [if_neg hm] at h
        have hge := Lib.indexByte_ge l c
        have hne : Lib.indexByte l c ≠ -1 := fun e => hm (by rw [e]; rfl)
        obtain ⟨m, rfl⟩ : ∃ m, i = m + 1 := ⟨i - 1, by omega⟩
        obtain ⟨h1, h2⟩ := idx_inv l c m (by omega)
        refine ⟨by simpa using h1, fun j hj => ?_⟩
        cases j with
        | zero => exact fun e => hb (by simpa using e)
        | succ j => exact fun e => h2 j (by omega) (by simpa using e)
theorem bt61 (x : ByteArray) (i : Nat) : x.data.toList[i]? = some 61 ↔ (i < x.size ∧ bt x (i : Int) = 61) := by
  have hl : x.data.toList.length = x.size := by rw [Array.length_toList]; rfl
  constructor
  · intro h
    obtain ⟨hi, he⟩ := List.getElem?_eq_some_iff.1 h
    refine ⟨by omega, ?_⟩
    have := bt_list x i (by rw [Lib.toList_data]; exact hi)
    rw [this]
    simp only [Lib.toList_data, he]
    rfl
  · rintro ⟨hi, hb⟩
    have h := bt_list x i (by rw [Lib.toList_data]; omega)
    rw [hb] at h
    simp only [Lib.toList_data] at h
    rw [List.getElem?_eq_getElem (by omega : i < x.data.toList.length)]
    congr 1
    refine UInt8.toNat_inj.1 ?_
    have e61 : (61 : UInt8).toNat = 61 := rfl
    omega
theorem not61 {c : Int} (h : wordC c = true) : c ≠ 61 := by
  rintro rfl
  exact absurd h (by decide)
theorem cut_yes (x : ByteArray) (h1 : wEnd x < x.size) (h2 : bt x (wEnd x : Int) = 61) : cutM x = (x.extract 0 (wEnd x), x.extract (wEnd x + 1) x.size, true) := by
  have he : eqIdx x = (wEnd x : Int) := idx_at _ _ _ ((bt61 x _).2 ⟨h1, h2⟩) (fun j hj h => not61 ((wEnd_spec x).2.1 j hj) ((bt61 x j).1 h).2)
  unfold cutM
  rw [he, if_pos (by omega)]
  rfl
theorem name_words {s : ByteArray} (h : nameB s = true) : ∀ j, j < s.size → wordC (bt s (j : Int)) = true := by
  unfold nameB at h
  simp only [Bool.and_eq_true, List.all_eq_true] at h
  intro j hj
  exact h.2 j (List.mem_range'_1.2 ⟨Nat.zero_le _, by omega⟩)
theorem bt_front (x : ByteArray) (i j : Nat) (hj : j < i) (hi : i ≤ x.size) : bt (x.extract 0 i) (j : Int) = bt x (j : Int) := by
  have hs : (x.extract 0 i).size = i := by rw [ext_size]; omega
  have h1 := bt_list (x.extract 0 i) j (by rw [size_list, hs]; exact hj)
  have h2 := bt_list x j (by rw [size_list]; omega)
  rw [h1, h2]
  simp only [Lib.toList_data, Lib.extract_data]
  congr 2
  simp
theorem cut_no (x : ByteArray) (h : ¬ (wEnd x < x.size ∧ bt x (wEnd x : Int) = 61)) : ((cutM x).2.2 && nameB (cutM x).1) = false := by
  rw [Bool.eq_false_iff]
  intro hh
  rw [Bool.and_eq_true] at hh
  obtain ⟨hc, hn⟩ := hh
  have hi0 : 0 ≤ eqIdx x := by
    by_cases hx : 0 ≤ eqIdx x
    · exact hx
    · unfold cutM at hc
      rw [if_neg hx] at hc
      exact absurd hc Bool.false_ne_true
  obtain ⟨i, hi⟩ := Int.eq_ofNat_of_zero_le hi0
  have hcm : cutM x = (x.extract 0 i, x.extract (i + 1) x.size, true) := by unfold cutM; rw [if_pos hi0, hi]; rfl
  rw [hcm] at hn
  obtain ⟨h1, _⟩ := idx_inv _ _ _ hi
  obtain ⟨hs, hb⟩ := (bt61 x i).1 h1
  obtain ⟨w1, w2, w3⟩ := wEnd_spec x
  have hes : (x.extract 0 i).size = i := by rw [ext_size]; omega
  have hw : ∀ j, j < i → wordC (bt x (j : Int)) = true := fun j hj => by
    have := name_words hn j (by rw [hes]; exact hj)
    rwa [bt_front x i j hj (by omega)] at this
  have e : wEnd x = i := by
    rcases Nat.lt_trichotomy (wEnd x) i with hlt | heq | hgt
    · have a := w3 (by omega)
      rw [hw _ hlt] at a
      exact absurd a (by decide)
    · exact heq
    · exact absurd hb (not61 (w2 i hgt))
  exact h (by rw [e]; exact ⟨hs, hb⟩)
/-! ### The list that the reference keeps -/
theorem hasN_sort (out : List SL) (n : ByteArray) : hasN (sortM out) n = hasN out n := by
  unfold hasN
  exact decide_eq_decide.2 (((sortM_perm out).map nameOf).mem_iff)
def goodL (out : List SL) : Prop := ∀ y ∈ out, emB y.f1 = false ∧ y.f0.size ≤ 1000
theorem goodL_sort {out : List SL} (h : goodL out) : goodL (sortM out) := fun y hy => h y ((sortM_perm out).mem_iff.1 hy)
theorem rdL (l : List SL) (i : Nat) (h : i < l.length) : rd_T30 l (i : Int) = l[i] := getD_get _ l i h
theorem toList_inj {a b : ByteArray} : a.toList = b.toList ↔ a.data.toList = b.data.toList := by rw [Lib.toList_data, Lib.toList_data]
theorem emB_nil : emB ⟨#[]⟩ = true := decide_eq_true (by rw [← List.length_eq_zero_iff, size_list]; rfl)
theorem hasN_nil (n : ByteArray) : hasN [] n = false := decide_eq_false (by simp)
theorem of_loop (S : List SL) (hS : S.length ≤ 1000) (hg : goodL S) (n : ByteArray) : ∀ (d i : Nat), i + d = S.length → EvP (fun k => spec_l2Of.l0 k n S (S.length : Int) (i : Int)) (fun r => emB r = !hasN (S.drop i) n) := by
  intro d
  induction d with
  | zero =>
    intro i h
    refine EvP.step ?_
    simp only [spec_l2Of.l0]
    rw [List.drop_of_length_le (by omega)]
    exact EvP.neg (by omega) (EvP.now (by rw [emB_nil, hasN_nil]; rfl))
  | succ d ih =>
    intro i h
    have hi : i < S.length := by omega
    refine EvP.step ?_
    simp only [spec_l2Of.l0, rdL S i hi, num_1 (show i ≤ S.length by omega) (show S.length ≤ 1000000 by omega)]
    rw [List.drop_eq_getElem_cons hi]
    refine EvP.pos (by omega) (EvP.pos (by omega) (EvP.pos (by omega) (EvP.ite (fun he => EvP.now ?_) (fun he => ?_))))
    · rw [(hg S[i] (List.getElem_mem hi)).1]
      have : hasN (S[i] :: S.drop (i + 1)) n = true := decide_eq_true (by rw [List.map_cons]; exact List.mem_cons.2 (Or.inl (toList_inj.1 he).symm))
      rw [this]; rfl
    · have hn : hasN (S[i] :: S.drop (i + 1)) n = hasN (S.drop (i + 1)) n := decide_eq_decide.2 (by
        rw [List.map_cons, List.mem_cons]
        exact ⟨fun h => h.resolve_left (fun e => he (toList_inj.2 e.symm)), Or.inr⟩)
      rw [hn]
      exact ih (i + 1) (by omega)
theorem of_ev (S : List SL) (hS : S.length ≤ 1000) (hg : goodL S) (n : ByteArray) : EvP (fun k => spec_l2Of.f k S n) (fun r => emB r = !hasN S n) := by
  unfold spec_l2Of.f
  exact of_loop S hS hg n S.length 0 (by omega)
theorem with_done (S : List SL) (hS : S.length ≤ 1000) (n v : ByteArray) (hn : hasN S n = false) : ∀ (d i : Nat) (acc : List SL), i + d = S.length → acc.length ≤ 2000 + i → EvP (fun k => spec_l2With.l0 k n v acc true S (S.length : Int) (i : Int)) (fun r => r = acc ++ S.drop i) := by
  intro d
  induction d with
  | zero =>
    intro i acc h ha
    refine EvP.step ?_
    simp only [spec_l2With.l0]
    rw [List.drop_of_length_le (by omega), List.append_nil]
    exact EvP.neg (by omega) (EvP.pos (by first | rfl | trivial) (EvP.now rfl))
  | succ d ih =>
    intro i acc h ha
    have hi : i < S.length := by omega
    have hne : ¬ (S[i]).f0.toList = n.toList := fun e => hasN_false hn (by rw [← toList_inj.1 e]; exact List.mem_map.2 ⟨S[i], List.getElem_mem hi, rfl⟩)
    refine EvP.step ?_
    simp only [spec_l2With.l0, rdL S i hi]
    refine EvP.pos (by omega) (EvP.pos (by omega) (EvP.pos (by omega) (EvP.pos (by first | rfl | trivial) (EvP.step ?_))))
    simp only [spec_l2With.j1, num_1 (show i ≤ S.length by omega) (show S.length ≤ 1000000 by omega)]
    have hr := ih (i + 1) (acc ++ [S[i]]) (by omega) (by rw [List.length_append]; show acc.length + 1 ≤ _; omega)
    rw [List.append_assoc, show [S[i]] ++ S.drop (i + 1) = S.drop i from (List.drop_eq_getElem_cons hi).symm] at hr
    exact EvP.neg (by decide) (EvP.neg hne (EvP.pos (by omega) hr))
theorem with_loop (S : List SL) (hS : S.length ≤ 1000) (hg : goodL S) (n v : ByteArray) (hn : hasN S n = false) (hz : n.size ≤ 1000) : ∀ (d i : Nat) (acc : List SL), i + d = S.length → acc.length ≤ i → EvP (fun k => spec_l2With.l0 k n v acc false S (S.length : Int) (i : Int)) (fun r => r = acc ++ insM ⟨n, v⟩ (S.drop i)) := by
  intro d
  induction d with
  | zero =>
    intro i acc h ha
    refine EvP.step ?_
    simp only [spec_l2With.l0]
    rw [List.drop_of_length_le (by omega)]
    exact EvP.neg (by omega) (EvP.neg (by decide) (EvP.pos (by omega) (EvP.now rfl)))
  | succ d ih =>
    intro i acc h ha
    have hi : i < S.length := by omega
    have hne : ¬ (S[i]).f0.toList = n.toList := fun e => hasN_false hn (by rw [← toList_inj.1 e]; exact List.mem_map.2 ⟨S[i], List.getElem_mem hi, rfl⟩)
    refine EvP.step ?_
    simp only [spec_l2With.l0, rdL S i hi]
    refine EvP.pos (by omega) (EvP.pos (by omega) (EvP.pos (by omega) (EvP.neg (by decide) ?_)))
    have hgz := (hg S[i] (List.getElem_mem hi)).2
    refine EvP.bind (cmpN_ev n (S[i]).f0 (by omega) (by omega)) (fun t et => ?_)
    rw [List.drop_eq_getElem_cons hi]
    have hins : insM ⟨n, v⟩ (S[i] :: S.drop (i + 1)) = if t ≤ 0 then ⟨n, v⟩ :: S[i] :: S.drop (i + 1) else S[i] :: insM ⟨n, v⟩ (S.drop (i + 1)) := by rw [et]; rfl
    rw [hins]
    refine EvP.step ?_
    simp only [spec_l2With.j1, num_1 (show i ≤ S.length by omega) (show S.length ≤ 1000000 by omega), Option.bind_some]
    by_cases ht : t ≤ 0
    · rw [if_pos ht, decide_eq_true ht]
      have hr := with_done S hS n v hn d (i + 1) ((acc ++ [⟨n, v⟩]) ++ [S[i]]) (by omega) (by rw [List.length_append, List.length_append]; show acc.length + 1 + 1 ≤ _; omega)
      rw [List.append_assoc, List.append_assoc] at hr
      have hlen : (acc ++ [(⟨n, v⟩ : SL)]).length < 4398046511104 := by rw [List.length_append]; show acc.length + 1 < _; omega
      rw [← List.append_assoc acc [(⟨n, v⟩ : SL)] [S[i]]] at hr
      exact EvP.pos (by first | rfl | trivial) (EvP.pos (by omega) (EvP.neg hne (EvP.pos hlen (by simpa using hr))))
    · rw [if_neg ht, decide_eq_false ht]
      have hr := ih (i + 1) (acc ++ [S[i]]) (by omega) (by rw [List.length_append]; exact Nat.succ_le_succ ha)
      rw [List.append_assoc] at hr
      exact EvP.neg (by decide) (EvP.neg hne (EvP.pos (by omega) hr))
theorem with_ev (S : List SL) (hS : S.length ≤ 1000) (hg : goodL S) (n v : ByteArray) (hn : hasN S n = false) (hz : n.size ≤ 1000) (hv : emB v = false) : EvP (fun k => spec_l2With.f k S n v) (fun r => r = insM ⟨n, v⟩ S) := by
  unfold spec_l2With.f
  have e : (v.toList == ([] : List UInt8)) = false := beq_eq_false_iff_ne.2 (of_decide_eq_false hv)
  rw [e]
  exact with_loop S hS hg n v hn hz S.length 0 [] (by omega) (Nat.le_refl _)
theorem specValue_ev (s : ByteArray) : EvP (fun k => spec_l2Value.f k s) (fun r => r = valueB s) := by
  unfold spec_l2Value.f valueB
  refine EvP.ite (fun h => ?_) (fun h => EvP.now ?_)
  · have he : emB s = false := by
      unfold emB
      exact decide_eq_false (fun e => by have := size_zero e; omega)
    rw [he]
    refine EvP.ite (fun h1 => ?_) (fun h1 => EvP.now (by rw [decide_eq_false h1]; rfl))
    rw [decide_eq_true h1]
    exact EvP.bind (specPrinted_ev s (by omega)) (fun t e => EvP.now (by rw [e]; rfl))
  · have he : emB s = true := by
      unfold emB
      refine decide_eq_true ?_
      rw [← List.length_eq_zero_iff, size_list]
      omega
    rw [he]; rfl
theorem head_ev (b : UInt8) (q : ByteArray) : spec_l2Head.f q ⟨#[b]⟩ = some (preB b q) := by
  unfold spec_l2Head.f
  by_cases h : 1 ≤ q.size
  · have h1 : (q.size : Int) ≥ (((⟨#[b]⟩ : ByteArray).size : Nat) : Int) := by show (q.size : Int) ≥ ((1 : Nat) : Int); omega
    rw [if_pos h1, if_pos (by omega), if_pos h1]
    congr 1
    exact one_pre b q h
  · rw [if_neg (by show ¬ (q.size : Int) ≥ ((1 : Nat) : Int); omega), pre_short b q h]
theorem value_ne {v : ByteArray} (h : valueB v = true) : emB v = false := by
  unfold valueB at h
  rw [Bool.and_eq_true, Bool.not_eq_true'] at h
  exact h.1
theorem name_small {s : ByteArray} (h : nameB s = true) : s.size ≤ 40 := by
  unfold nameB at h
  simp only [Bool.and_eq_true, decide_eq_true_eq] at h
  exact h.1.1.2
def optP (out : List SL) (n : ByteArray) : Option ByteArray → List SL
  | none => out
  | some v => putI out n v
theorem full (out : List SL) (n : ByteArray) (m : Option ByteArray) (h : hasN out n = true ∨ ¬ out.length < 20) : optP out n m = out := by
  cases m with
  | none => rfl
  | some v =>
    show putI out n v = out
    unfold putI
    rcases h with h | h
    · rw [h]; simp
    · rw [decide_eq_false h]; simp
theorem putI_good {out : List SL} (h : goodL out) (n v : ByteArray) (hn : n.size ≤ 1000) : goodL (putI out n v) := by
  unfold putI
  split
  · rename_i h1
    rw [Bool.and_eq_true] at h1
    intro y hy
    rcases List.mem_append.1 hy with hy | hy
    · exact h y hy
    · rw [List.mem_singleton.1 hy]
      exact ⟨value_ne h1.1, hn⟩
  · exact h
theorem ge20_no {a : Nat} (h : a < 20) : decide ((a : Int) ≥ 20) = false := decide_eq_false (by omega)
theorem ge20_yes {a : Nat} (h : ¬ a < 20) : decide ((a : Int) ≥ 20) = true := decide_eq_true (by omega)
theorem step_cut (out : List SL) (x : ByteArray) {n v : ByteArray} (h : cutM x = (n, v, true)) : stepI out x = if nameB n = true then optP out n (valI v) else out := by
  unfold stepI
  rw [h]
  dsimp only
  rw [Bool.true_and]
  cases valI v <;> rfl
theorem em_no {t : ByteArray} (h : emB t = !true) : ¬ t.toList = ([] : List UInt8) := of_decide_eq_false h
theorem em_yes {t : ByteArray} (h : emB t = !false) : t.toList = ([] : List UInt8) := of_decide_eq_true h
theorem sortM_nil : sortM [] = [] := rfl
theorem step_len (out : List SL) (x : ByteArray) (h : out.length ≤ 20) : (stepI out x).length ≤ 20 := by
  unfold stepI
  split
  · cases valI (cutM x).2.1 with
    | none => exact h
    | some v => exact putI_len out _ v h
  · exact h
theorem put_yes (out : List SL) (n v : ByteArray) (h1 : valueB v = true) (h2 : hasN out n = false) (h3 : out.length < 20) : putI out n v = out ++ [⟨n, v⟩] := by unfold putI; rw [h1, h2, decide_eq_true h3]; rfl
theorem put_no (out : List SL) (n v : ByteArray) (h : ¬ valueB v = true) : putI out n v = out := by
  have h : valueB v = false := by simpa using h
  unfold putI; rw [h]; rfl
theorem val_yes (v : ByteArray) (h : preB 34 v = true) : valI v = (if (unqS v).2 = (v.size : Int) then some (unqS v).1 else none) := by unfold valI; rw [if_pos h]; exact unq_both v
theorem val_no (v : ByteArray) (h : ¬ preB 34 v = true) : valI v = some v := by unfold valI; rw [if_neg h]
attribute [local irreducible] wEnd wEndD cutM stepI valI putI nameB valueB sortM hasN
theorem pairs_loop (r : List ByteArray) (hr : r.length ≤ 1000000) (hz : ∀ x ∈ r, x.size ≤ 1000) : ∀ (d i : Nat) (out : List SL), i + d = r.length → (out.map nameOf).Nodup → out.length ≤ 20 → goodL out → EvP (fun k => spec_l22Pairs.l0 k (sortM out) r (r.length : Int) (i : Int)) (fun q => q = sortM ((r.drop i).foldl stepI out)) := by
  intro d
  induction d with
  | zero =>
    intro i out h hnd hl hg
    refine EvP.step ?_
    simp only [spec_l22Pairs.l0]
    rw [List.drop_of_length_le (by omega)]
    exact EvP.neg (by omega) (EvP.now rfl)
  | succ d ih =>
    intro i out h hnd hl hg
    have hi : i < r.length := by omega
    have hir : i ≤ r.length := by omega
    refine EvP.step ?_
    simp only [spec_l22Pairs.l0, rdOf_get _ r i hi]
    rw [List.drop_eq_getElem_cons hi, List.foldl_cons]
    have hxz := hz r[i] (List.getElem_mem hi)
    generalize r[i] = x at hxz
    have hsl : (sortM out).length = out.length := (sortM_perm out).length_eq
    have hcont : stepI out x = out → ∀ e : Int, EvP (fun k => spec_l22Pairs.j1 k (sortM out) x e r (r.length : Int) (i : Int) true) (fun q => q = sortM ((r.drop (i + 1)).foldl stepI (stepI out x))) := fun hs e => by
      rw [hs]
      refine EvP.step ?_
      simp only [spec_l22Pairs.j1, num_1 hir hr]
      exact EvP.pos (by first | rfl | trivial) (ih (i + 1) out (by omega) hnd hl hg)
    refine EvP.pos (by omega) (EvP.pos (by omega) (EvP.pos (by omega) ?_))
    refine EvP.bind (nameAt_ev x (by omega)) (fun e' he' => ?_)
    subst he'
    obtain ⟨hw1, _, _⟩ := wEnd_spec x
    have hno : ¬ (wEnd x < x.size ∧ bt x (wEnd x : Int) = 61) → stepI out x = out := fun hh => by unfold stepI; rw [cut_no x hh, if_neg (by decide)]
    refine EvP.ite (fun hge => hcont (hno (fun hh => by have := hh.1; omega)) _) (fun hlt => ?_)
    refine EvP.pos (by omega) (EvP.pos (by omega) ?_)
    refine EvP.ite (fun h61 => ?_) (fun h61 => hcont (hno (fun hh => h61 hh.2)) _)
    have hcut := cut_yes x (by omega) h61
    have hst : stepI out x = (if nameB (x.extract 0 (wEnd x)) = true then optP out (x.extract 0 (wEnd x)) (valI (x.extract (wEnd x + 1) x.size)) else out) := step_cut out x hcut
    obtain ⟨e, hwe⟩ : ∃ e, e = wEnd x := ⟨_, rfl⟩
    rw [← hwe] at hst hw1 hlt h61 ⊢
    have hel : e + 1 ≤ x.size := by omega
    have hxm : x.size ≤ 1000000 := by omega
    have hvz : (x.extract (e + 1) x.size).size ≤ 1000 := by rw [ext_size]; omega
    have hsl2 : (sortM out).length ≤ 1000 := by omega
    clear hwe
    refine EvP.pos (by omega) ?_
    rw [Int.toNat_natCast]
    refine EvP.bind (spec_l2Name_ev _) (fun b hb => ?_)
    subst hb
    cases hnm : nameB (x.extract 0 e) with
    | false =>
      rw [hnm, if_neg (by decide)] at hst
      exact EvP.neg (by decide) (hcont hst _)
    | true =>
      rw [hnm, if_pos rfl] at hst
      have hns := name_small hnm
      obtain ⟨n, hn⟩ : ∃ n, n = x.extract 0 e := ⟨_, rfl⟩
      rw [← hn] at hst hns ⊢
      refine EvP.pos rfl ?_
      refine EvP.bind (of_ev (sortM out) hsl2 (goodL_sort hg) n) (fun t ht => ?_)
      rw [hasN_sort] at ht
      by_cases hhas : hasN out n = true
      · rw [hhas] at ht
        rw [full out n _ (Or.inl hhas)] at hst
        exact EvP.neg (em_no ht) (hcont hst _)
      · have hhas : hasN out n = false := by simpa using hhas
        rw [hhas] at ht
        refine EvP.pos (em_yes ht) ?_
        by_cases h20 : out.length < 20
        · rw [ge20_no (hsl ▸ h20)]
          refine EvP.step ?_
          simp only [spec_l22Pairs.j1, num_1 hir hr, num_1 hw1 hxm, head_ev, Option.bind_some, Int.toNat_natCast]
          refine EvP.neg (by decide) (EvP.pos (Int.natCast_nonneg _) (EvP.pos (Int.ofNat_le.2 hel) ?_))
          generalize x.extract (e + 1) x.size = v at hst hvz
          have hput : ∀ u : ByteArray, stepI out x = putI out n u → EvP (fun k => spec_l22Pairs.j2 k (sortM out) x (e : Int) u r (r.length : Int) (i : Int)) (fun q => q = sortM ((r.drop (i + 1)).foldl stepI (stepI out x))) := fun u hu => by
            refine EvP.step ?_
            simp only [spec_l22Pairs.j2, num_1 hir hr, Int.toNat_natCast]
            rw [← hn]
            refine EvP.bind (specValue_ev u) (fun b hb => ?_)
            subst hb
            by_cases hv : valueB u = true
            · refine EvP.pos hv (EvP.pos (Int.natCast_nonneg _) (EvP.pos (Int.ofNat_le.2 hw1) ?_))
              refine EvP.bind (with_ev (sortM out) hsl2 (goodL_sort hg) n u (by rw [hasN_sort]; exact hhas) (by omega) (value_ne hv)) (fun t ht => ?_)
              subst ht
              have hp := put_yes out n u hv hhas h20
              have h1 := putI_nodup out n u hnd
              have h2 := putI_len out n u hl
              have h3 := putI_good hg n u (by omega)
              rw [hp] at h1 h2 h3
              rw [hu, hp, ← sortM_snoc]
              exact ih (i + 1) (out ++ [⟨n, u⟩]) (by omega) h1 h2 h3
            · rw [hu, put_no out n u hv]
              exact EvP.neg hv (ih (i + 1) out (by omega) hnd hl hg)
          by_cases hq : preB 34 v = true
          · refine EvP.pos hq (EvP.bind (unquoteS_ev v (by omega)) (fun t ht => ?_))
            subst ht
            rw [val_yes v hq] at hst
            refine EvP.ite (fun hs => ?_) (fun hs => ?_)
            · rw [if_pos hs] at hst
              exact hput _ hst
            · rw [if_neg hs] at hst
              have hst : stepI out x = out := hst
              rw [hst]
              exact ih (i + 1) out (by omega) hnd hl hg
          · rw [val_no v hq] at hst
            exact EvP.neg hq (hput v hst)
        · rw [full out n _ (Or.inr h20)] at hst
          rw [ge20_yes (hsl ▸ h20)]
          exact hcont hst _
theorem specPairs_ev (p : ByteArray) (hp : p.size ≤ 500) : EvP (fun k => spec_l22Pairs.f k p) (fun r => r = pairsM p) := by
  unfold spec_l22Pairs.f pairsM
  refine EvP.bind (sp_ev p (by omega)) (fun t ht => ?_)
  obtain ⟨h1, h2, h3⟩ := ht
  have h := pairs_loop t (by omega) (fun x hx => by have := h3 x hx; omega) t.length 0 [] (by omega) List.nodup_nil (Nat.zero_le _) (by simp [goodL])
  rw [sortM_nil, List.drop_zero, ← fold_filter, h1] at h
  exact h
def pairsB (p : ByteArray) : List SL := if (decide ((p.size : Int) ≤ 500) && printedB p) = true then pairsM p else []
theorem l22Text_ev (s : ByteArray) (m : Int) (hm : m ≤ 1048576) : EvP (fun k => spec_l22Text.f k s m) (fun r => r = (decide ((s.size : Int) ≤ m) && printedB s)) := by
  unfold spec_l22Text.f
  refine EvP.ite (fun h => ?_) (fun h => EvP.now (by rw [decide_eq_false h, Bool.false_and]))
  rw [decide_eq_true h, Bool.true_and]
  exact EvP.bind (specPrinted_ev s (by omega)) (fun t e => EvP.now e)
theorem specPairsOf_ev (p : ByteArray) : EvP (fun k => spec_PairsOf.f k p) (fun r => r = pairsB p) := by
  unfold spec_PairsOf.f pairsB
  refine EvP.bind (l22Text_ev p 500 (by omega)) (fun t e => ?_)
  subst e
  by_cases h : (p.size : Int) ≤ 500
  · refine EvP.ite (fun hb => ?_) (fun hb => EvP.now (by rw [if_neg hb]))
    rw [if_pos hb]
    exact EvP.bind (specPairs_ev p (by omega)) (fun t e => EvP.now e)
  · rw [decide_eq_false h, Bool.false_and]
    exact EvP.neg (by decide) (EvP.now rfl)
theorem implPairsOf_ev (p : ByteArray) : EvP (fun k => impl_PairsOf.f k p) (fun r => r = pairsB p) := by
  unfold impl_PairsOf.f pairsB
  refine EvP.bind (implPrinted_ev p 500 (by omega)) (fun t e => ?_)
  subst e
  by_cases h : (p.size : Int) ≤ 500
  · refine EvP.ite (fun hb => ?_) (fun hb => EvP.now (by rw [if_neg hb]))
    rw [if_pos hb]
    have hf : impl_pairsOf.f p = some (pairsM p) := by unfold impl_pairsOf.f; rw [if_pos (by omega)]
    rw [hf]
    exact EvP.now rfl
  · rw [decide_eq_false h, Bool.false_and]
    exact EvP.neg (by decide) (EvP.now rfl)
theorem pairsM_len (p : ByteArray) : (pairsM p).length ≤ 20 := by
  unfold pairsM
  rw [(sortM_perm _).length_eq]
  suffices h : ∀ (l : List ByteArray) (out : List SL), out.length ≤ 20 → (l.foldl stepI out).length ≤ 20 by exact h _ [] (Nat.zero_le _)
  intro l
  induction l with
  | nil => exact fun out h => h
  | cons x xs ih => exact fun out h => ih _ (step_len out x h)
end Go.Proofs.Ytgdekdcbfnghoaa.PairsSp
