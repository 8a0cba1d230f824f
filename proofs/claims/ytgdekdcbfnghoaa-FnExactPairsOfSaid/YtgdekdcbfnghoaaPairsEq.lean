/- The reference's reading of pairs answers as the program's. -/
import Derived.Test.YtgdekdcbfnghoaaPairs
import Derived.Test.YtgdekdcbfnghoaaPFnExactPairsOfx5
import Derived.Test.YtgdekdcbfnghoaaPFnExactPairsOfx3
import Derived.Test.YtgdekdcbfnghoaaPFnExactPairsOfx4
import Derived.Test.YtgdekdcbfnghoaaPFnExactPairsOfx6
namespace Go.Proofs.Ytgdekdcbfnghoaa.PairsEq
open Go.RowKit Go.Proofs.Ytgdekdcbfnghoaa.PFnExactPairsOf Go.Proofs.YtgdekdcbfnghoaaW.PrintWords Go.Proofs.YtgdekdcbfnghoaaW.PrintLast Go.Proofs.Ytgdekdcbfnghoaa.Evs Go.Proofs.Ytgdekdcbfnghoaa.AFnExactPairsOf Go.Proofs.Ytgdekdcbfnghoaa.PrtFnExactPairsOf Go.Proofs.Ytgdekdcbfnghoaa.Pairs
set_option linter.unusedVariables false
/-- The three-way comparison of two texts. -/
def cmpT (a b : List UInt8) : Int := if Op.bytesLess a b = true then -1 else if Op.bytesLess b a = true then 1 else 0
theorem less_irrefl : ∀ a : List UInt8, Op.bytesLess a a = false
  | [] => rfl
  | x :: xs => by
    simp only [Op.bytesLess, beq_self_eq_true, Bool.true_and, less_irrefl xs, Bool.or_false]
    exact decide_eq_false (UInt8.lt_irrefl x)
theorem cmpT_nil_nil : cmpT [] [] = 0 := rfl
theorem cmpT_nil_cons (b : UInt8) (y : List UInt8) : cmpT [] (b :: y) = -1 := rfl
theorem cmpT_cons_nil (a : UInt8) (x : List UInt8) : cmpT (a :: x) [] = 1 := rfl
theorem cmpT_eq (a : UInt8) (x y : List UInt8) : cmpT (a :: x) (a :: y) = cmpT x y := by
  unfold cmpT
  simp only [Op.bytesLess, beq_self_eq_true, Bool.true_and, decide_eq_false (UInt8.lt_irrefl a), Bool.false_or]
theorem cmpT_lt {a b : UInt8} (x y : List UInt8) (h : a.toNat < b.toNat) : cmpT (a :: x) (b :: y) = -1 := by
  unfold cmpT
  have : a < b := h
  simp only [Op.bytesLess, decide_eq_true this, Bool.true_or, if_true]
theorem cmpT_gt {a b : UInt8} (x y : List UInt8) (h : b.toNat < a.toNat) : cmpT (a :: x) (b :: y) = 1 := by
  unfold cmpT
  have h1 : b < a := h
  have h2 : ¬ a < b := fun h' => by have : a.toNat < b.toNat := h'; omega
  have h3 : (a == b) = false := by
    rw [beq_eq_false_iff_ne]
    intro e
    subst e
    omega
  simp only [Op.bytesLess, decide_eq_false h2, decide_eq_true h1, h3, Bool.false_and, Bool.false_or, Bool.true_or, if_true, Bool.false_eq_true, if_false]
theorem cmpT_neg (a b : List UInt8) : cmpT a b < 0 ↔ Op.bytesLess a b = true := by
  unfold cmpT
  by_cases h : Op.bytesLess a b = true
  · rw [if_pos h]
    exact ⟨fun _ => h, fun _ => by omega⟩
  · rw [if_neg h]
    by_cases h2 : Op.bytesLess b a = true
    · rw [if_pos h2]
      exact ⟨fun h' => by omega, fun h' => absurd h' h⟩
    · rw [if_neg h2]
      exact ⟨fun h' => by omega, fun h' => absurd h' h⟩
theorem bt_list (s : ByteArray) (i : Nat) (h : i < s.toList.length) : bt s (i : Int) = ((s.toList[i]'h).toNat : Int) := by
  have hs : i < s.size := by rw [← size_list]; exact h
  rw [← bt_at s (i : Int) (by simpa using hs)]
  have e : s.toList[i]'h = s[i]'hs := by
    have e2 : s.toList = s.data.toList := Lib.toList_data s
    have e3 : s.toList[i]? = some (s[i]'hs) := by
      rw [e2, Array.getElem?_toList]
      exact Array.getElem?_eq_getElem hs
    rw [List.getElem?_eq_getElem h] at e3
    exact Option.some.inj e3
  rw [e]
  rfl

theorem cmpNum_ev (a b : Int) : spec_l2CmpNum.f a b = some (if a < b then -1 else if a > b then 1 else 0) := by
  unfold spec_l2CmpNum.f
  split <;> first | rfl | (split <;> rfl)
theorem w_bt (s : ByteArray) (i : Int) : wrap64 (bt s i) = bt s i := by
  have := bt_range s i
  exact w64 (by omega) (by omega)
theorem cmpText_loop (s t : ByteArray) (hs : s.size ≤ 1048576) (ht : t.size ≤ 1048576) : ∀ (d i : Nat), i + d = s.size → i ≤ t.size → EvP (fun k => spec_l2CmpText.l0 k s t (i : Int)) (fun r => r = cmpT (s.toList.drop i) (t.toList.drop i)) := by
  have ls := size_list s
  have lt := size_list t
  intro d
  induction d with
  | zero =>
    intro i h hit
    refine EvP.step ?_
    simp only [spec_l2CmpText.l0]
    refine EvP.neg (by omega) (EvP.step ?_)
    simp only [spec_l2CmpText.j1, cmpNum_ev, Option.bind_some]
    refine EvP.neg (by simp) (EvP.now ?_)
    rw [List.drop_of_length_le (by omega : s.toList.length ≤ i)]
    by_cases hlt : i < t.toList.length
    · rw [List.drop_eq_getElem_cons hlt, cmpT_nil_cons, if_pos (by omega)]
    · rw [List.drop_of_length_le (by omega), cmpT_nil_nil, if_neg (by omega), if_neg (by omega)]
  | succ d ih =>
    intro i h hit
    have hi : i < s.size := by omega
    refine EvP.step ?_
    simp only [spec_l2CmpText.l0]
    refine EvP.pos (by omega) (EvP.step ?_)
    simp only [spec_l2CmpText.j1, cmpNum_ev, Option.bind_some, wrap_succ hi hs, w_bt]
    rw [List.drop_eq_getElem_cons (by omega : i < s.toList.length)]
    refine EvP.ite (fun hd => ?_) (fun hd => ?_)
    · have hj := of_decide_eq_true hd
      have hjt : i < t.toList.length := by omega
      refine EvP.pos (by omega) (EvP.pos (by omega) (EvP.pos (by omega) ?_))
      rw [List.drop_eq_getElem_cons hjt, bt_list s i (by omega), bt_list t i hjt]
      refine EvP.ite (fun he => ?_) (fun he => EvP.now ?_)
      · have e : s.toList[i]'(by omega) = t.toList[i]'hjt := UInt8.toNat_inj.1 (by omega)
        rw [e, cmpT_eq]
        exact ih (i + 1) (by omega) (by omega)
      · by_cases hlt : (s.toList[i]'(by omega)).toNat < (t.toList[i]'hjt).toNat
        · rw [cmpT_lt _ _ hlt, if_pos (by omega)]
        · rw [cmpT_gt _ _ (by omega), if_neg (by omega), if_pos (by omega)]
    · have hj := of_decide_eq_false (Bool.eq_false_iff.2 hd)
      refine EvP.now ?_
      rw [List.drop_of_length_le (by omega : t.toList.length ≤ i), cmpT_cons_nil, if_neg (by omega), if_pos (by omega)]
theorem cmpText_ev (s t : ByteArray) (hs : s.size ≤ 1048576) (ht : t.size ≤ 1048576) : EvP (fun k => spec_l2CmpText.f k s t) (fun r => r = cmpT s.toList t.toList) := by
  unfold spec_l2CmpText.f
  exact cmpText_loop s t hs ht s.size 0 (by omega) (by omega)
theorem cmpT_cb : ∀ a b : List UInt8, cmpT a b = Lib.compareBytes a b
  | [], [] => rfl
  | [], _ :: _ => rfl
  | _ :: _, [] => rfl
  | a :: x1, b :: x2 => by
    unfold Lib.compareBytes
    by_cases h1 : a < b
    · rw [if_pos h1]; exact cmpT_lt _ _ h1
    · rw [if_neg h1]
      by_cases h2 : b < a
      · rw [if_pos h2]; exact cmpT_gt _ _ h2
      · rw [if_neg h2, u8_eq h1 h2, cmpT_eq]
        exact cmpT_cb x1 x2
theorem cmpN_ev (s t : ByteArray) (hs : s.size ≤ 1048576) (ht : t.size ≤ 1048576) : EvP (fun k => spec_l2CmpText.f k s t) (fun r => r = Lib.compareBytes s.data.toList t.data.toList) := by
  have h := cmpText_ev s t hs ht
  rw [cmpT_cb, Lib.toList_data, Lib.toList_data] at h
  exact h
/-! ### Cut texts -/
theorem ext_join (p : ByteArray) (f i j : Nat) (h1 : f ≤ i) (h2 : i ≤ j) : p.extract f i ++ p.extract i j = p.extract f j := by
  apply ByteArray.ext
  rw [ByteArray.data_append, ByteArray.data_extract, ByteArray.data_extract, ByteArray.data_extract, Array.extract_append_extract, Nat.min_eq_left h1, Nat.max_eq_right h2]
theorem ext_all (p : ByteArray) : p.extract 0 p.size = p := by
  apply ByteArray.ext
  rw [ByteArray.data_extract]
  exact Array.extract_size ..
theorem ext_nil (p : ByteArray) (a : Nat) : (⟨#[]⟩ : ByteArray) = p.extract a a := by
  apply ByteArray.ext
  rw [ByteArray.data_extract]
  exact (Array.eq_empty_of_size_eq_zero (by rw [Array.size_extract]; omega)).symm
theorem emB_ext (p : ByteArray) (f i : Nat) (hi : i ≤ p.size) : emB (p.extract f i) = !decide (f < i) := by
  unfold emB
  by_cases h : f < i
  · rw [decide_eq_true h]
    refine decide_eq_false (fun e => ?_)
    have := size_zero e
    rw [ext_size] at this
    omega
  · rw [decide_eq_false h]
    refine decide_eq_true ?_
    have hz : (p.extract f i).size = 0 := by rw [ext_size]; omega
    rw [← List.length_eq_zero_iff, size_list]
    exact hz
/-! ### A quoted text -/
theorem unq_loop2 (v : ByteArray) (hv : v.size ≤ 1000000) : ∀ (N i : Nat) (b : List Int), v.size + 1 ≤ N + i → i ≤ v.size → b.length ≤ i → EvP (fun k => spec_l2Unquote.l0 k v b (i : Int)) (fun r => r = (match unqL v N i b with | some (t, n) => (t, (n : Int)) | none => (⟨#[]⟩, -1))) := by
  intro N
  induction N with
  | zero => intro i b h1 h2; omega
  | succ N ih =>
    intro i b hN hi1 hb
    refine EvP.step ?_
    by_cases hi : i < v.size
    · have w1 := num_1 hi1 hv
      have w2 := num_2 hi hv
      simp only [spec_l2Unquote.l0, w1]
      refine EvP.pos (by omega) (EvP.pos (by omega) ?_)
      unfold unqL
      rw [if_pos hi]
      refine EvP.ite (fun h => ?_) (fun h1 => ?_)
      · rw [if_pos h]
        exact EvP.now rfl
      · rw [if_neg h1]
        refine EvP.ite (fun h => ?_) (fun h2 => ?_)
        · rw [if_pos h]
          refine EvP.ite (fun h3 => ?_) (fun h3 => ?_)
          · rw [if_neg (fun h4 => absurd h4.1 (by omega))]
            exact EvP.now rfl
          · have h3' : i + 1 < v.size := by omega
            simp only [w2]
            refine EvP.pos (by omega) (EvP.pos (by omega) ?_)
            refine EvP.ite (fun h4 => ?_) (fun h4 => ?_)
            · rw [if_pos ⟨h3', Or.inl h4⟩]
              exact EvP.pos (by omega) (ih (i + 2) _ (by omega) (by omega) (by rw [List.length_append]; exact Nat.succ_le_succ (by omega)))
            · refine EvP.ite (fun h5 => ?_) (fun h5 => ?_)
              · rw [if_pos ⟨h3', Or.inr h5⟩]
                exact EvP.pos (by omega) (ih (i + 2) _ (by omega) (by omega) (by rw [List.length_append]; exact Nat.succ_le_succ (by omega)))
              · rw [if_neg (fun h6 => h6.2.elim h4 h5)]
                exact EvP.now rfl
        · rw [if_neg h2]
          exact EvP.pos (by omega) (ih (i + 1) _ (by omega) (by omega) (by rw [List.length_append]; exact Nat.succ_le_succ hb))
    · unfold unqL
      rw [if_neg hi]
      simp only [spec_l2Unquote.l0]
      exact EvP.neg (by omega) (EvP.now rfl)
def unqS (v : ByteArray) : ByteArray × Int := match unqM v with
  | some (t, n) => (t, (n : Int))
  | none => (⟨#[]⟩, -1)
theorem unquoteS_ev (v : ByteArray) (hv : v.size ≤ 1000000) : EvP (fun k => spec_l2Unquote.f k v 0) (fun r => r = unqS v) := by
  have bad : EvP (fun k => spec_l2Unquote.j0 k v 0 true) (fun r => r = ((⟨#[]⟩ : ByteArray), (-1 : Int))) := EvP.step (by simp only [spec_l2Unquote.j0]; exact EvP.pos (by first | rfl | trivial) (EvP.now rfl))
  unfold spec_l2Unquote.f unqS unqM
  refine EvP.ite (fun h => ?_) (fun h => ?_)
  · rw [pre_short 34 v (by omega), if_neg (by decide)]
    exact bad
  · have hp : 1 ≤ v.size := by omega
    refine EvP.pos (by omega) (EvP.pos (by omega) ?_)
    by_cases hb : bt v 0 = 34
    · have hpre : preB 34 v = true := by unfold preB; rw [decide_eq_true hp, Bool.true_and]; exact beq_iff_eq.2 hb
      rw [if_pos hpre, show (bt v 0 != 34) = false from bne_eq_false_iff_eq.2 hb]
      refine EvP.step ?_
      simp only [spec_l2Unquote.j0]
      refine EvP.neg (by decide) ?_
      rw [show wrap64 (0 + 1) = ((1 : Nat) : Int) by unfold wrap64; omega]
      exact unq_loop2 v hv (v.size + 1) 1 [] (by omega) hp (Nat.zero_le _)
    · have hpre : preB 34 v = false := by unfold preB; rw [decide_eq_true hp, Bool.true_and]; exact beq_eq_false_iff_ne.2 hb
      rw [hpre, if_neg (by decide), show (bt v 0 != 34) = true from bne_iff_ne.2 hb]
      exact bad
/-- Both read the same value behind the sign of equality. -/
theorem unq_both (v : ByteArray) : (if ((unqR v).2.2 && emB (unqR v).2.1) = true then some (unqR v).1 else none) = (if (unqS v).2 = (v.size : Int) then some (unqS v).1 else none) := by
  unfold unqR unqS
  cases h : unqM v with
  | none => rw [if_neg (show ¬ (false && emB ⟨#[]⟩) = true from Bool.false_ne_true), if_neg (by show ¬ (-1 : Int) = (v.size : Int); omega)]
  | some tn =>
    obtain ⟨t, n⟩ := tn
    have hn : n ≤ v.size := by
      unfold unqM at h
      split at h
      · exact unqL_le v _ _ _ t n h
      · exact absurd h (by simp)
    show (if (true && emB (v.extract n v.size)) = true then some t else none) = (if (n : Int) = (v.size : Int) then some t else none)
    rw [emB_ext v n v.size (Nat.le_refl _), Bool.true_and]
    by_cases he : n = v.size
    · rw [if_pos (by rw [decide_eq_false (by omega)]; rfl), if_pos (by omega)]
    · rw [if_neg (by rw [decide_eq_true (by omega)]; decide), if_neg (by omega)]
/-! ### The pieces -/
def ne (s : ByteArray) : Bool := !emB s
theorem filt_add (p : ByteArray) (f i : Nat) (hi : i ≤ p.size) (L out : List ByteArray) (h : L.filter ne = out) : (L ++ [p.extract f i]).filter ne = addP p f i out := by
  rw [List.filter_append, h]
  unfold addP
  by_cases hf : f < i
  · rw [if_pos hf, List.filter_cons_of_pos (by unfold ne; rw [emB_ext p f i hi, decide_eq_true hf]; rfl), List.filter_nil]
  · rw [if_neg hf, List.filter_cons_of_neg (by unfold ne; rw [emB_ext p f i hi, decide_eq_false hf]; decide), List.filter_nil, List.append_nil]
theorem sp_loop (p : ByteArray) (hp : p.size ≤ 1000000) : ∀ (N f i : Nat) (q : Bool) (L out : List ByteArray), p.size + 1 ≤ N + i → i ≤ p.size → f ≤ i → L.length ≤ i → L.filter ne = out → (∀ x ∈ L, x.size ≤ p.size) → EvP (fun k => spec_l22Pieces.l0 k p L (p.extract f i) q (i : Int)) (fun r => r.filter ne = piecesL p N f i q out ∧ r.length ≤ p.size + 1 ∧ ∀ x ∈ r, x.size ≤ p.size) := by
  intro N
  induction N with
  | zero => intro f i q L out h1 h2; omega
  | succ N ih =>
    intro f i q L out hN hi1 hf hL hfl hms
    have hes : (p.extract f i).size = i - f := by rw [ext_size]; omega
    have hmm : ∀ x ∈ L ++ [p.extract f i], x.size ≤ p.size := fun x hx => by
      rcases List.mem_append.1 hx with h | h
      · exact hms x h
      · rw [List.mem_singleton.1 h, hes]; omega
    refine EvP.step ?_
    by_cases hi : i < p.size
    · have w1 := num_1 hi1 hp
      have w2 : wrap64 ((i : Int) + 2) = ((i + 2 : Nat) : Int) := by unfold wrap64; omega
      have w3 := num_2 hi hp
      have hen : ∀ j, (p.extract i j).size ≤ p.size := fun j => by rw [ext_size]; omega
      unfold piecesL
      rw [if_pos hi]
      simp only [spec_l22Pieces.l0, w1]
      refine EvP.pos (by omega) ?_
      have hgo : ¬ (bt p (i : Int) = 92 ∧ q = true ∧ i + 1 < p.size) → EvP (fun k => spec_l22Pieces.j1 k p L (p.extract f i) q (i : Int) false) (fun r => r.filter ne = (if bt p (i : Int) = 32 ∧ q = false then piecesL p N (i + 1) (i + 1) q (addP p f i out) else if bt p (i : Int) = 34 then piecesL p N f (i + 1) (!q) out else if bt p (i : Int) = 92 ∧ q = true ∧ i + 1 < p.size then piecesL p N f (i + 2) q out else piecesL p N f (i + 1) q out) ∧ r.length ≤ p.size + 1 ∧ ∀ x ∈ r, x.size ≤ p.size) := fun hn => by
        refine EvP.step ?_
        simp only [spec_l22Pieces.j1, w1, Int.toNat_natCast, ext_join p f i (i + 1) hf (Nat.le_succ i)]
        have hb := hen (i + 1)
        refine EvP.neg (by decide) (EvP.pos (by omega) (EvP.pos (by omega) (EvP.ite (fun h34 => ?_) (fun h34 => ?_))))
        · rw [if_neg (fun h => by have := h.1; omega), if_pos h34]
          exact EvP.pos (by omega) (EvP.pos (by omega) (EvP.pos (by omega) (ih f (i + 1) (!q) L out (by omega) hi (by omega) (by omega) hfl hms)))
        · refine EvP.ite (fun h32 => ?_) (fun h32 => ?_)
          · cases q with
            | true =>
              rw [if_neg (fun h => absurd h.2 (by decide)), if_neg h34, if_neg hn]
              exact EvP.pos (by first | rfl | trivial) (EvP.pos (by omega) (EvP.pos (by omega) (EvP.pos (by omega) (ih f (i + 1) true L out (by omega) hi (by omega) (by omega) hfl hms))))
            | false =>
              rw [if_pos ⟨h32, rfl⟩]
              rw [ext_nil p (i + 1)]
              exact EvP.neg (by decide) (EvP.pos (by omega) (ih (i + 1) (i + 1) false _ _ (by omega) hi (Nat.le_refl _) (by rw [List.length_append]; exact Nat.succ_le_succ hL) (filt_add p f i hi1 L out hfl) hmm))
          · rw [if_neg (fun h => h32 h.1), if_neg h34, if_neg hn]
            exact EvP.pos (by omega) (EvP.pos (by omega) (EvP.pos (by omega) (ih f (i + 1) q L out (by omega) hi (by omega) (by omega) hfl hms)))
      refine EvP.ite (fun hq => ?_) (fun hq => hgo (fun h => hq h.2.1))
      refine EvP.pos (by omega) (EvP.ite (fun h92 => ?_) (fun h92 => hgo (fun h => h92 h.1)))
      by_cases hl : i + 1 < p.size
      · rw [decide_eq_true (by omega : ((i + 1 : Nat) : Int) < (p.size : Int))]
        refine EvP.step ?_
        simp only [spec_l22Pieces.j1, w1, w2, w3, Int.toNat_natCast, ext_join p f i (i + 2) hf (by omega)]
        have hb := hen (i + 2)
        rw [if_neg (fun h => by have := h.1; omega), if_neg (by omega), if_pos ⟨h92, hq, hl⟩]
        exact EvP.pos (by first | rfl | trivial) (EvP.pos (by omega) (EvP.pos (by omega) (EvP.pos (by omega) (EvP.pos (by omega) (ih f (i + 2) q L out (by omega) (by omega) (by omega) (by omega) hfl hms)))))
      · rw [decide_eq_false (by omega : ¬ ((i + 1 : Nat) : Int) < (p.size : Int))]
        exact hgo (fun h => hl h.2.2)
    · have he : i = p.size := by omega
      unfold piecesL
      rw [if_neg hi]
      simp only [spec_l22Pieces.l0]
      refine EvP.neg (by omega) (EvP.pos (by omega) (EvP.now ⟨filt_add p f i hi1 L out hfl, by rw [List.length_append]; exact Nat.succ_le_succ (by omega), hmm⟩))
theorem sp_ev (p : ByteArray) (hp : p.size ≤ 1000000) : EvP (fun k => spec_l22Pieces.f k p) (fun r => r.filter ne = piecesM p ∧ r.length ≤ p.size + 1 ∧ ∀ x ∈ r, x.size ≤ p.size) := by
  unfold spec_l22Pieces.f piecesM
  rw [ext_nil p 0]
  exact sp_loop p hp (p.size + 1) 0 0 false [] [] (by omega) (by omega) (Nat.le_refl _) (Nat.zero_le _) rfl (by simp)
theorem cut_empty (x : ByteArray) (h : emB x = true) : (cutM x).2.2 = false := by
  have h0 : x.data.toList = [] := by
    have := of_decide_eq_true h
    rwa [Lib.toList_data] at this
  unfold cutM eqIdx
  rw [h0]
  rfl
theorem fold_filter : ∀ (r : List ByteArray) (out : List SL), (r.filter ne).foldl stepI out = r.foldl stepI out
  | [], _ => rfl
  | x :: xs, out => by
    by_cases h : ne x = true
    · rw [List.filter_cons_of_pos h, List.foldl_cons, List.foldl_cons, fold_filter xs]
    · rw [List.filter_cons_of_neg h, List.foldl_cons, fold_filter xs]
      have he : emB x = true := by unfold ne at h; simpa using h
      have : stepI out x = out := by unfold stepI; rw [cut_empty x he, Bool.false_and, if_neg (by decide)]
      rw [this]
end Go.Proofs.Ytgdekdcbfnghoaa.PairsEq
