/- The program's reading of pairs, in plain words. -/
import Derived.Test.YtgdekdcbfnghoaaPrtFnExactPairsOf
import Derived.Test.YtgdekdcbfnghoaaHSort
import Derived.Test.YtgdekdcbfnghoaaHCut
import Derived.Test.YtgdekdcbfnghoaaPFnExactPairsOfx2
import Derived.Test.YtgdekdcbfnghoaaPFnExactPairsOfx2
namespace Go.Proofs.Ytgdekdcbfnghoaa.Pairs
open Go.RowKit Go.Proofs.Ytgdekdcbfnghoaa.PFnExactPairsOf Go.Proofs.YtgdekdcbfnghoaaW.PrintWords Go.Proofs.YtgdekdcbfnghoaaW.PrintLast Go.Proofs.Ytgdekdcbfnghoaa.Evs Go.Proofs.Ytgdekdcbfnghoaa.AFnExactPairsOf Go.Proofs.Ytgdekdcbfnghoaa.PrtFnExactPairsOf
set_option linter.unusedVariables false
theorem ext_size (p : ByteArray) (a b : Nat) : (p.extract a b).size = min b p.size - a := by simp
theorem num_1 {a P : Nat} (h1 : a ≤ P) (h2 : P ≤ 1000000) : wrap64 ((a : Int) + 1) = ((a + 1 : Nat) : Int) := by unfold wrap64; omega
theorem num_2 {a P : Nat} (h1 : a < P) (h2 : P ≤ 1000000) : wrap64 (((a + 1 : Nat) : Int) + 1) = ((a + 2 : Nat) : Int) := by unfold wrap64; omega
/-! ### One byte ahead -/
theorem bt_head (q : ByteArray) (h : 1 ≤ q.size) : q.data.toList = (q.data.toList.headD 0) :: q.data.toList.tail ∧ bt q 0 = ((q.data.toList.headD 0).toNat : Int) := by
  have hl : 0 < q.data.toList.length := by rw [Array.length_toList]; exact h
  have hs : 0 < q.size := h
  cases hq : q.data.toList with
  | nil => rw [hq] at hl; simp at hl
  | cons a t =>
    refine ⟨rfl, ?_⟩
    rw [← bt_at q 0 (by simpa using hs)]
    have : q.data.toList[0]? = some (q[0]'hs) := by rw [Array.getElem?_toList]; exact Array.getElem?_eq_getElem hs
    rw [hq] at this
    simp only [List.getElem?_cons_zero, Option.some.injEq] at this
    show ((q[0]'hs).toNat : Int) = (a.toNat : Int)
    rw [← this]
def preB (b : UInt8) (q : ByteArray) : Bool := decide (1 ≤ q.size) && (bt q 0 == (b.toNat : Int))
theorem one_pre (b : UInt8) (q : ByteArray) (h : 1 ≤ q.size) : ((q.extract 0 1).toList == (⟨#[b]⟩ : ByteArray).toList) = preB b q := by
  unfold preB
  rw [decide_eq_true h, Bool.true_and, Lib.toList_data, Lib.toList_data, Lib.extract_data]
  obtain ⟨e1, e2⟩ := bt_head q h
  rw [e1, e2]
  show (([q.data.toList.headD 0] : List UInt8) == [b]) = _
  generalize q.data.toList.headD 0 = a
  by_cases ha : a = b
  · subst ha; rw [beq_self_eq_true, beq_self_eq_true]
  · rw [beq_eq_false_iff_ne.2 (by simpa using ha), eq_comm, beq_eq_false_iff_ne]
    intro hn
    exact ha (UInt8.toNat_inj.1 (by omega))
theorem pre_short (b : UInt8) (q : ByteArray) (h : ¬ 1 ≤ q.size) : preB b q = false := by unfold preB; rw [decide_eq_false h, Bool.false_and]
theorem prefix_ev (b : UInt8) (q : ByteArray) : strings_HasPrefix.f q ⟨#[b]⟩ = some (preB b q) := by
  unfold strings_HasPrefix.f stringslite_HasPrefix.f
  by_cases h : 1 ≤ q.size
  · have h1 : (q.size : Int) ≥ (((⟨#[b]⟩ : ByteArray).size : Nat) : Int) := by show (q.size : Int) ≥ ((1 : Nat) : Int); omega
    rw [if_pos h1, if_pos (by omega), if_pos h1, Option.bind_some]
    congr 1
    exact one_pre b q h
  · rw [if_neg (by show ¬ (q.size : Int) ≥ ((1 : Nat) : Int); omega), pre_short b q h]
    rfl
/-! ### A quoted text -/
def unqL (v : ByteArray) : Nat → Nat → List Int → Option (ByteArray × Nat)
  | 0, _, _ => none
  | n + 1, i, b =>
    if i < v.size then (if bt v (i : Int) = 34 then some (strOfNums b, i + 1)
      else if bt v (i : Int) = 92 then (if i + 1 < v.size ∧ (bt v ((i + 1 : Nat) : Int) = 34 ∨ bt v ((i + 1 : Nat) : Int) = 92) then unqL v n (i + 2) (b ++ [bt v ((i + 1 : Nat) : Int)]) else none)
      else unqL v n (i + 1) (b ++ [bt v (i : Int)])) else none
def unqM (v : ByteArray) : Option (ByteArray × Nat) := if preB 34 v = true then unqL v (v.size + 1) 1 [] else none
def unqR (v : ByteArray) : ByteArray × ByteArray × Bool := match unqM v with
  | some (t, n) => (t, v.extract n v.size, true)
  | none => (⟨#[]⟩, ⟨#[]⟩, false)
theorem unqL_le (v : ByteArray) : ∀ (N i : Nat) (b : List Int) (t : ByteArray) (n : Nat), unqL v N i b = some (t, n) → n ≤ v.size
  | 0, i, b, t, n, h => by unfold unqL at h; exact absurd h (by simp)
  | N + 1, i, b, t, n, h => by
    unfold unqL at h
    by_cases hi : i < v.size
    · rw [if_pos hi] at h
      by_cases h1 : bt v (i : Int) = 34
      · rw [if_pos h1] at h
        injection h with h
        injection h with _ h
        omega
      · rw [if_neg h1] at h
        by_cases h2 : bt v (i : Int) = 92
        · rw [if_pos h2] at h
          by_cases h3 : i + 1 < v.size ∧ (bt v ((i + 1 : Nat) : Int) = 34 ∨ bt v ((i + 1 : Nat) : Int) = 92)
          · rw [if_pos h3] at h
            exact unqL_le v N _ _ t n h
          · rw [if_neg h3] at h; exact absurd h (by simp)
        · rw [if_neg h2] at h
          exact unqL_le v N _ _ t n h
    · rw [if_neg hi] at h; exact absurd h (by simp)
theorem unq_loop (v : ByteArray) (hv : v.size ≤ 1000000) : ∀ (N i : Nat) (b : List Int), v.size + 1 ≤ N + i → i ≤ v.size → b.length ≤ i → EvP (fun k => impl_unquote.l0 k v b (i : Int)) (fun r => r = (match unqL v N i b with | some (t, n) => (t, v.extract n v.size, true) | none => (⟨#[]⟩, ⟨#[]⟩, false))) := by
  intro N
  induction N with
  | zero => intro i b h1 h2; omega
  | succ N ih =>
    intro i b hN hi1 hb
    refine EvP.step ?_
    by_cases hi : i < v.size
    · have w1 := num_1 hi1 hv
      have w2 := num_2 hi hv
      simp only [impl_unquote.l0, w1]
      refine EvP.pos (by omega) (EvP.pos (by omega) ?_)
      unfold unqL
      rw [if_pos hi]
      refine EvP.ite (fun h => ?_) (fun h1 => ?_)
      · rw [if_pos h]
        exact EvP.pos (by omega) (EvP.pos (by omega) (EvP.now rfl))
      · rw [if_neg h1]
        refine EvP.ite (fun h => ?_) (fun h2 => ?_)
        · rw [if_pos h]
          refine EvP.ite (fun h3 => ?_) (fun h3 => ?_)
          · rw [if_neg (fun h4 => absurd h4.1 (by omega))]
            exact EvP.now rfl
          · have h3' : i + 1 < v.size := by omega
            simp only [w2]
            refine EvP.pos (by omega) (EvP.pos (by omega) ?_)
            refine EvP.ite (fun h4 => ?_) (fun h4 => ?_)
            · rw [if_pos ⟨h3', Or.inl h4⟩]
              exact EvP.pos (by omega) (ih (i + 2) _ (by omega) (by omega) (by rw [List.length_append]; exact Nat.succ_le_succ (by omega)))
            · refine EvP.ite (fun h5 => ?_) (fun h5 => ?_)
              · rw [if_pos ⟨h3', Or.inr h5⟩]
                exact EvP.pos (by omega) (ih (i + 2) _ (by omega) (by omega) (by rw [List.length_append]; exact Nat.succ_le_succ (by omega)))
              · rw [if_neg (fun h6 => h6.2.elim h4 h5)]
                exact EvP.now rfl
        · rw [if_neg h2]
          exact EvP.pos (by omega) (ih (i + 1) _ (by omega) (by omega) (by rw [List.length_append]; exact Nat.succ_le_succ hb))
    · unfold unqL
      rw [if_neg hi]
      simp only [impl_unquote.l0]
      exact EvP.neg (by omega) (EvP.now rfl)
theorem unquote_ev (v : ByteArray) (hv : v.size ≤ 1000000) : EvP (fun k => impl_unquote.f k v) (fun r => r = unqR v) := by
  have bad : EvP (fun k => impl_unquote.j0 k v true) (fun r => r = ((⟨#[]⟩ : ByteArray), (⟨#[]⟩ : ByteArray), false)) := EvP.step (by simp only [impl_unquote.j0]; exact EvP.pos (by first | rfl | trivial) (EvP.now rfl))
  unfold impl_unquote.f unqR unqM
  refine EvP.ite (fun h => ?_) (fun h => ?_)
  · have hz := size_zero h
    rw [pre_short 34 v (by omega), if_neg (by decide)]
    exact bad
  · have hp := size_pos h
    refine EvP.pos (by omega) ?_
    by_cases hb : bt v 0 = 34
    · have hpre : preB 34 v = true := by unfold preB; rw [decide_eq_true (show 1 ≤ v.size from hp), Bool.true_and]; exact beq_iff_eq.2 hb
      rw [if_pos hpre, show (bt v 0 != 34) = false from bne_eq_false_iff_eq.2 hb]
      refine EvP.step ?_
      simp only [impl_unquote.j0]
      exact EvP.neg (by decide) (unq_loop v hv (v.size + 1) 1 [] (by omega) hp (Nat.zero_le _))
    · have hpre : preB 34 v = false := by unfold preB; rw [decide_eq_true (show 1 ≤ v.size from hp), Bool.true_and]; exact beq_eq_false_iff_ne.2 hb
      rw [hpre, if_neg (by decide), show (bt v 0 != 34) = true from bne_iff_ne.2 hb]
      exact bad
/-! ### The pieces -/
def addP (p : ByteArray) (f i : Nat) (out : List ByteArray) : List ByteArray := if f < i then out ++ [p.extract f i] else out
def piecesL (p : ByteArray) : Nat → Nat → Nat → Bool → List ByteArray → List ByteArray
  | 0, _, _, _, out => out
  | n + 1, f, i, q, out =>
    if i < p.size then (if bt p (i : Int) = 32 ∧ q = false then piecesL p n (i + 1) (i + 1) q (addP p f i out)
      else if bt p (i : Int) = 34 then piecesL p n f (i + 1) (!q) out
      else if bt p (i : Int) = 92 ∧ q = true ∧ i + 1 < p.size then piecesL p n f (i + 2) q out
      else piecesL p n f (i + 1) q out)
    else addP p f i out
def piecesM (p : ByteArray) : List ByteArray := piecesL p (p.size + 1) 0 0 false []
theorem addP_size (p : ByteArray) (f i : Nat) (out : List ByteArray) (h : ∀ x ∈ out, x.size ≤ p.size) : ∀ x ∈ addP p f i out, x.size ≤ p.size := by
  unfold addP
  intro x hx
  split at hx
  · rcases List.mem_append.1 hx with h1 | h1
    · exact h x h1
    · rw [List.mem_singleton.1 h1, ext_size]; omega
  · exact h x hx
theorem piecesL_size (p : ByteArray) : ∀ (N f i : Nat) (q : Bool) (out : List ByteArray), (∀ x ∈ out, x.size ≤ p.size) → ∀ x ∈ piecesL p N f i q out, x.size ≤ p.size
  | 0, _, _, _, out, h => h
  | N + 1, f, i, q, out, h => by
    unfold piecesL
    split
    · split
      · exact piecesL_size p N _ _ _ _ (addP_size p f i out h)
      · split
        · exact piecesL_size p N _ _ _ _ h
        · split <;> exact piecesL_size p N _ _ _ _ h
    · exact addP_size p f i out h
theorem piecesM_size (p : ByteArray) : ∀ x ∈ piecesM p, x.size ≤ p.size := piecesL_size p _ _ _ _ _ (by simp)
theorem addP_len (p : ByteArray) (f i : Nat) (out : List ByteArray) : (addP p f i out).length ≤ out.length + 1 := by
  unfold addP
  split
  · rw [List.length_append]; exact Nat.le_refl _
  · omega
theorem piecesL_len (p : ByteArray) : ∀ (N f i : Nat) (q : Bool) (out : List ByteArray), (piecesL p N f i q out).length ≤ out.length + N + 1
  | 0, _, _, _, out => by unfold piecesL; omega
  | N + 1, f, i, q, out => by
    unfold piecesL
    have h0 := addP_len p f i out
    split
    · split
      · have := piecesL_len p N (i + 1) (i + 1) q (addP p f i out); omega
      · split
        · have := piecesL_len p N f (i + 1) (!q) out; omega
        · split
          · have := piecesL_len p N f (i + 2) q out; omega
          · have := piecesL_len p N f (i + 1) q out; omega
    · omega
theorem piecesM_len (p : ByteArray) : (piecesM p).length ≤ p.size + 2 := by
  have := piecesL_len p (p.size + 1) 0 0 false []
  unfold piecesM
  simp only [List.length_nil] at this
  omega
theorem pieces_loop (p : ByteArray) (hp : p.size ≤ 1000000) : ∀ (N f i : Nat) (q : Bool) (out : List ByteArray), p.size + 1 ≤ N + i → i ≤ p.size → f ≤ i → out.length ≤ i → EvP (fun k => impl_pieces.l0 k p out (f : Int) q (i : Int)) (fun r => r = piecesL p N f i q out) := by
  intro N
  induction N with
  | zero => intro f i q out h1 h2; omega
  | succ N ih =>
    intro f i q out hN hi1 hf ho
    have w1 := num_1 hi1 hp
    -- what is done at a cut
    have hcut : ∀ Q : List ByteArray → Prop, EvP (fun k => impl_pieces.l0 k p (addP p f i out) ((i + 1 : Nat) : Int) q ((i + 1 : Nat) : Int)) Q → EvP (fun k => impl_pieces.j1 k p out (f : Int) q (i : Int) true) Q := fun Q h => by
      refine EvP.step ?_
      simp only [impl_pieces.j1, w1]
      unfold addP at h
      refine EvP.pos (by first | rfl | trivial) (EvP.ite (fun hfi => ?_) (fun hfi => ?_))
      · rw [if_pos (by omega)] at h
        refine EvP.pos (by omega) (EvP.pos (by omega) (EvP.pos (by omega) (EvP.pos (by omega) ?_)))
        exact h
      · rw [if_neg (by omega)] at h
        exact h
    refine EvP.step ?_
    by_cases hi : i < p.size
    · have w2 := num_2 hi hp
      unfold piecesL
      rw [if_pos hi]
      simp only [impl_pieces.l0]
      refine EvP.pos (by omega) (EvP.neg (by omega) (EvP.pos (by omega) (EvP.pos (by omega) ?_)))
      have hgo : ¬ (bt p (i : Int) = 32 ∧ q = false) → EvP (fun k => impl_pieces.j1 k p out (f : Int) q (i : Int) false) (fun r => r = (if bt p (i : Int) = 32 ∧ q = false then piecesL p N (i + 1) (i + 1) q (addP p f i out) else if bt p (i : Int) = 34 then piecesL p N f (i + 1) (!q) out else if bt p (i : Int) = 92 ∧ q = true ∧ i + 1 < p.size then piecesL p N f (i + 2) q out else piecesL p N f (i + 1) q out)) := fun hn => by
        rw [if_neg hn]
        refine EvP.step ?_
        simp only [impl_pieces.j1, w1]
        refine EvP.neg (by decide) (EvP.pos (by omega) (EvP.pos (by omega) (EvP.ite (fun h => ?_) (fun h34 => ?_))))
        · rw [if_pos h]
          exact ih f (i + 1) (!q) out (by omega) (by omega) (by omega) (by omega)
        · rw [if_neg h34]
          refine EvP.ite (fun h92 => ?_) (fun h92 => ?_)
          · refine EvP.ite (fun hq => ?_) (fun hq => ?_)
            · refine EvP.ite (fun hl => ?_) (fun hl => ?_)
              · rw [if_pos ⟨h92, hq, by omega⟩, w2]
                exact ih f (i + 2) q out (by omega) (by omega) (by omega) (by omega)
              · rw [if_neg (fun h => hl (by have := h.2.2; omega))]
                exact ih f (i + 1) q out (by omega) (by omega) (by omega) (by omega)
            · rw [if_neg (fun h => hq h.2.1)]
              exact ih f (i + 1) q out (by omega) (by omega) (by omega) (by omega)
          · rw [if_neg (fun h => h92 h.1)]
            exact ih f (i + 1) q out (by omega) (by omega) (by omega) (by omega)
      refine EvP.ite (fun h32 => ?_) (fun h32 => hgo (fun h => h32 h.1))
      cases q with
      | true => exact hgo (fun h => absurd h.2 (by decide))
      | false =>
        rw [if_pos ⟨h32, rfl⟩]
        exact hcut _ (ih (i + 1) (i + 1) false _ (by omega) (by omega) (Nat.le_refl _) (Nat.le_trans (addP_len p f i out) (by omega)))
    · have he : i = p.size := by omega
      unfold piecesL
      rw [if_neg hi]
      simp only [impl_pieces.l0]
      refine EvP.pos (by omega) (EvP.pos (by omega) (hcut _ (EvP.step ?_)))
      simp only [impl_pieces.l0]
      exact EvP.neg (by omega) (EvP.now rfl)
theorem pieces_ev (p : ByteArray) (hp : p.size ≤ 1000000) : EvP (fun k => impl_pieces.f k p) (fun r => r = piecesM p) := by
  unfold impl_pieces.f piecesM
  exact pieces_loop p hp (p.size + 1) 0 0 false [] (by omega) (by omega) (Nat.le_refl _) (Nat.zero_le _)
/-! ### A pair -/
def emB (s : ByteArray) : Bool := decide (s.toList = [])
def valueB (s : ByteArray) : Bool := !emB s && (decide ((s.size : Int) ≤ 100) && printedB s)
theorem implValue_ev (s : ByteArray) : EvP (fun k => impl_isValue.f k s) (fun r => r = valueB s) := by
  unfold impl_isValue.f valueB emB
  refine EvP.ite (fun h => EvP.now (by rw [decide_eq_true h]; rfl)) (fun h => ?_)
  rw [decide_eq_false h]
  exact EvP.bind (implPrinted_ev s 100 (by omega)) (fun t e => EvP.now (by rw [e]; rfl))
def valI (v : ByteArray) : Option ByteArray := if preB 34 v = true then (if ((unqR v).2.2 && emB (unqR v).2.1) = true then some (unqR v).1 else none) else some v
def hasN (out : List SL) (n : ByteArray) : Bool := decide (n.data.toList ∈ out.map nameOf)
def putI (out : List SL) (n v : ByteArray) : List SL := if (valueB v && (!hasN out n && decide (out.length < 20))) = true then out ++ [⟨n, v⟩] else out
def stepI (out : List SL) (p : ByteArray) : List SL :=
  if ((cutM p).2.2 && nameB (cutM p).1) = true then (match valI (cutM p).2.1 with
    | none => out
    | some v => putI out (cutM p).1 v) else out
theorem putI_len (out : List SL) (n v : ByteArray) (h : out.length ≤ 20) : (putI out n v).length ≤ 20 := by
  unfold putI
  split
  · rename_i h1
    simp only [Bool.and_eq_true, decide_eq_true_eq] at h1
    rw [List.length_append]
    exact h1.2.2
  · exact h
/-! ### In the order of their names -/
def ltN (x y : SL) : Prop := Lib.compareBytes (nameOf x) (nameOf y) < 0
def insM (x : SL) : List SL → List SL
  | [] => [x]
  | y :: ys => if Lib.compareBytes (nameOf x) (nameOf y) ≤ 0 then x :: y :: ys else y :: insM x ys
def sortM (out : List SL) : List SL := out.foldl (fun acc x => insM x acc) []
theorem sortM_snoc (out : List SL) (x : SL) : sortM (out ++ [x]) = insM x (sortM out) := by unfold sortM; rw [List.foldl_append]; rfl
theorem insM_perm (x : SL) : ∀ l, (insM x l).Perm (x :: l)
  | [] => List.Perm.refl _
  | y :: ys => by
    unfold insM
    split
    · exact List.Perm.refl _
    · exact ((insM_perm x ys).cons y).trans (List.Perm.swap x y ys)
theorem fold_perm : ∀ (out acc : List SL), (out.foldl (fun acc x => insM x acc) acc).Perm (out ++ acc)
  | [], acc => List.Perm.refl _
  | x :: xs, acc => by
    rw [List.foldl_cons]
    refine (fold_perm xs (insM x acc)).trans ?_
    refine ((insM_perm x acc).append_left xs).trans ?_
    exact List.perm_middle
theorem sortM_perm (out : List SL) : (sortM out).Perm out := by
  have := fold_perm out []
  rwa [List.append_nil] at this
theorem ltN_trans {x y z : SL} (h1 : ltN x y) (h2 : ltN y z) : ltN x z := (cmp_le_trans _ _ _ (by unfold ltN at h1; omega) (by unfold ltN at h2; omega)).2 (Or.inl h1)
theorem insM_sorted (x : SL) : ∀ l : List SL, l.Pairwise ltN → (∀ y ∈ l, nameOf x ≠ nameOf y) → (insM x l).Pairwise ltN
  | [], _, _ => List.pairwise_singleton _ _
  | y :: ys, h, hn => by
    obtain ⟨h1, h2⟩ := List.pairwise_cons.1 h
    unfold insM
    have hxy := hn y (List.mem_cons_self ..)
    split
    · rename_i hle
      have hlt : ltN x y := by
        unfold ltN
        rcases Int.lt_or_lt_of_ne (fun e => hxy (cmp_eq_zero _ _ e) : Lib.compareBytes (nameOf x) (nameOf y) ≠ 0) with h | h
        · exact h
        · exact absurd h (by omega)
      exact List.pairwise_cons.2 ⟨fun z hz => by
        rcases List.mem_cons.1 hz with rfl | hz
        · exact hlt
        · exact ltN_trans hlt (h1 z hz), h⟩
    · rename_i hgt
      have hyx : ltN y x := by
        unfold ltN
        have := cmp_nlt (nameOf x) (nameOf y) (by omega)
        rcases Int.lt_or_lt_of_ne (fun e => hxy (cmp_eq_zero _ _ e).symm : Lib.compareBytes (nameOf y) (nameOf x) ≠ 0) with h | h
        · exact h
        · exact absurd h (by omega)
      refine List.pairwise_cons.2 ⟨fun z hz => ?_, insM_sorted x ys h2 (fun z hz => hn z (List.mem_cons_of_mem _ hz))⟩
      rcases List.mem_cons.1 ((insM_perm x ys).mem_iff.1 hz) with rfl | hz
      · exact hyx
      · exact h1 z hz
theorem fold_sorted : ∀ (out acc : List SL), acc.Pairwise ltN → ((out ++ acc).map nameOf).Nodup → (out.foldl (fun acc x => insM x acc) acc).Pairwise ltN
  | [], acc, h, _ => h
  | x :: xs, acc, h, hn => by
    rw [List.foldl_cons]
    have hn' : (nameOf x :: (xs ++ acc).map nameOf).Nodup := hn
    obtain ⟨n1, n2⟩ := List.nodup_cons.1 hn'
    refine fold_sorted xs (insM x acc) (insM_sorted x acc h (fun y hy e => n1 (e ▸ List.mem_map.2 ⟨y, List.mem_append.2 (Or.inr hy), rfl⟩))) ?_
    have hp : ((xs ++ insM x acc).map nameOf).Perm (nameOf x :: (xs ++ acc).map nameOf) := by
      have := (((insM_perm x acc).append_left xs).trans List.perm_middle).map nameOf
      exact this
    exact hp.symm.nodup hn'
theorem sortM_sorted (out : List SL) (h : (out.map nameOf).Nodup) : (sortM out).Pairwise ltN := fold_sorted out [] List.Pairwise.nil (by rw [List.append_nil]; exact h)
theorem uniq : ∀ l1 l2 : List SL, l1.Perm l2 → l1.Pairwise ltN → l2.Pairwise ltN → l1 = l2
  | [], l2, hp, _, _ => (List.Perm.nil_eq hp)
  | a :: l1, [], hp, _, _ => absurd hp.symm (by simp)
  | a :: l1, b :: l2, hp, h1, h2 => by
    obtain ⟨a1, a2⟩ := List.pairwise_cons.1 h1
    obtain ⟨b1, b2⟩ := List.pairwise_cons.1 h2
    have e : a = b := by
      have ha : a ∈ b :: l2 := hp.mem_iff.1 (List.mem_cons_self ..)
      have hb : b ∈ a :: l1 := hp.mem_iff.2 (List.mem_cons_self ..)
      rcases List.mem_cons.1 ha with h | h
      · exact h
      · rcases List.mem_cons.1 hb with h' | h'
        · exact h'.symm
        · exact absurd (b1 a h) (cmp_lt_asymm (a1 b h'))
    subst e
    rw [uniq l1 l2 ((List.perm_cons a).1 hp) a2 b2]
theorem sorted_eq {l out : List SL} (hn : (out.map nameOf).Nodup) (hp : l.Perm out) (hs : l.Pairwise (fun x y => ¬ Lib.compareBytes (nameOf y) (nameOf x) < 0)) : l = sortM out := by
  refine uniq l (sortM out) (hp.trans (sortM_perm out).symm) ?_ (sortM_sorted out hn)
  have hn' : (l.map nameOf).Nodup := (hp.map nameOf).symm.nodup hn
  have hn'' : l.Pairwise (fun x y => nameOf x ≠ nameOf y) := List.pairwise_map.1 hn'
  refine (hs.and hn'').imp (fun {x y} h => ?_)
  unfold ltN
  have := cmp_nlt (nameOf y) (nameOf x) h.1
  rcases Int.lt_or_lt_of_ne (fun e => h.2 (cmp_eq_zero _ _ e) : Lib.compareBytes (nameOf x) (nameOf y) ≠ 0) with h' | h'
  · exact h'
  · exact absurd h' (by omega)
def pairsM (p : ByteArray) : List SL := sortM ((piecesM p).foldl stepI [])
theorem hasN_false {out : List SL} {n : ByteArray} (h : hasN out n = false) : n.data.toList ∉ out.map nameOf := of_decide_eq_false h
theorem putI_nodup (out : List SL) (n v : ByteArray) (h : (out.map nameOf).Nodup) : ((putI out n v).map nameOf).Nodup := by
  unfold putI
  split
  · rename_i h1
    simp only [Bool.and_eq_true, Bool.not_eq_true', decide_eq_true_eq] at h1
    have h2 := hasN_false h1.2.1
    rw [List.map_append, List.nodup_append]
    refine ⟨h, by simp, fun a ha b hb => ?_⟩
    have hb : b = n.data.toList := by simpa [nameOf] using hb
    rw [hb]
    exact fun e => h2 (e ▸ ha)
  · exact h
end Go.Proofs.Ytgdekdcbfnghoaa.Pairs
