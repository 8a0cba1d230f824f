/- The program's PartsOf returns what the reference's returns, for every pattern and every text. No further condition. -/
import Derived.Test.YtpnldoegchjmmaaPartsSp
import Derived.Test.YtpnldoegchjmmaaPFnExactPartsOfx9
namespace Go.Proofs.Ytpnldoegchjmmaa.Pure
open Go.RowKit Go.Proofs.Ytpnldoegchjmmaa.PFnExactPartsOf Go.Proofs.YtpnldoegchjmmaaW.PrintWords Go.Proofs.YtpnldoegchjmmaaW.PrintLast Go.Proofs.Ytpnldoegchjmmaa.Evs Go.Proofs.Ytpnldoegchjmmaa.SortM Go.Proofs.Ytpnldoegchjmmaa.PartsEq Go.Proofs.Ytpnldoegchjmmaa.PartsSp
set_option linter.unusedVariables false
theorem eq_loop (l : List SL) (hl : l.length ≤ 1000) : ∀ (d i : Nat), i + d = l.length → EvP (fun k => laws_eqLabelS.l0 k l l (i : Int)) (fun r => r = true) := by
  intro d
  induction d with
  | zero =>
    intro i h
    refine EvP.step ?_
    simp only [laws_eqLabelS.l0]
    exact EvP.neg (by omega) (EvP.now rfl)
  | succ d ih =>
    intro i h
    have hi : i < l.length := by omega
    refine EvP.step ?_
    have he : laws_eqLabel.f (l[i]).f0 (l[i]).f1 (l[i]).f0 (l[i]).f1 = some true := by unfold laws_eqLabel.f; rw [if_pos rfl, if_pos rfl]
    simp only [laws_eqLabelS.l0, rdL l i hi, he, Option.bind_some, num_1 (show i ≤ l.length by omega) (show l.length ≤ 1000000 by omega)]
    exact EvP.pos (by omega) (EvP.pos (by omega) (EvP.pos (by omega) (EvP.pos (by first | rfl | trivial) (ih (i + 1) (by omega)))))
theorem eq_ev (l : List SL) (hl : l.length ≤ 1000) : EvP (fun k => laws_eqLabelS.f k l l) (fun r => r = true) := by
  unfold laws_eqLabelS.f
  exact EvP.pos rfl (eq_loop l hl l.length 0 (by omega))
/-! ### The marks -/
theorem str_size (y : Int) : (strOfNums [y]).size = 1 := rfl
theorem mark_any : ∀ (n : Nat) (x : Int) (s : ByteArray), 0 ≤ x → x ≤ 1000000 → x < 10 ^ n → s.size + n ≤ 1000 → EvP (fun k => laws_markText.l0 k x s) (fun _ => True) := by
  intro n
  induction n with
  | zero =>
    intro x s h0 hx h1 hs
    refine EvP.step ?_
    simp only [laws_markText.l0]
    exact EvP.neg (by simp at h1; omega) (EvP.pos (by omega) (EvP.now trivial))
  | succ n ih =>
    intro x s h0 hx h1 hs
    refine EvP.step ?_
    simp only [laws_markText.l0, Option.bind_some, str_size]
    refine EvP.ite (fun h => ?_) (fun h => EvP.pos (by omega) (EvP.now trivial))
    refine EvP.pos (by omega) ?_
    have hp : (10 : Int) ^ (n + 1) = 10 ^ n * 10 := Int.pow_succ 10 n
    have hd : Int.tdiv x 10 = x / 10 := Int.tdiv_eq_ediv_of_nonneg h0
    have hb : x / 10 < 10 ^ n := by
      refine Int.ediv_lt_of_lt_mul (by decide) ?_
      rw [← hp]; exact h1
    have h10 : 0 ≤ x / 10 := Int.ediv_nonneg h0 (by decide)
    rw [hd, w64 (by omega) (by omega)]
    exact ih (x / 10) _ h10 (by omega) hb (by rw [ByteArray.size_append, str_size]; omega)
theorem marks : ∃ mt : Int → ByteArray, ∀ x : Int, 0 < x → x < 1000 → EvP (fun k => laws_markText.f k x) (fun r => r = mt x) := by
  refine ⟨fun x => Classical.epsilon (fun t => Ev (fun k => laws_markText.f k x) t), fun x h0 h1 => ?_⟩
  have h : EvP (fun k => laws_markText.f k x) (fun _ => True) := by
    unfold laws_markText.f
    exact EvP.neg (by omega) (mark_any 3 x ⟨#[]⟩ (by omega) (by omega) (by show x < 1000; omega) (by show 0 + 3 ≤ 1000; omega))
  obtain ⟨r, hr, _⟩ := h
  exact Ev.evP (Classical.epsilon_spec ⟨r, hr⟩)
theorem odd_w {i : Nat} (h : i ≤ 200) : wrap64 (((1 + 2 * i : Nat) : Int) + 1) = ((2 + 2 * i : Nat) : Int) := by unfold wrap64; omega
theorem even_w {i : Nat} (h : i ≤ 200) : wrap64 (((2 + 2 * i : Nat) : Int) + 1) = ((1 + 2 * (i + 1) : Nat) : Int) := by unfold wrap64; omega
theorem rd_set (l : List SL) (i : Nat) (hi : i < l.length) (x : SL) : rd_T39 (l.set i x) (i : Int) = x := by
  have h : i < (l.set i x).length := by rw [List.length_set]; exact hi
  rw [rdL (l.set i x) i h, List.getElem_set_self]
theorem mark_loop (mt : Int → ByteArray) (hmt : ∀ x : Int, 0 < x → x < 1000 → EvP (fun k => laws_markText.f k x) (fun r => r = mt x)) : ∀ (d i : Nat) (l : List SL), i + d = l.length → l.length ≤ 200 → (∀ j, (hj : j < l.length) → j < i → l[j] = ⟨mt ((1 + 2 * j : Nat) : Int), mt ((2 + 2 * j : Nat) : Int)⟩) →
    EvP (fun k => laws_markLabelS.l0 k l ((1 + 2 * i : Nat) : Int) (i : Int)) (fun r => r.1 = ((1 + 2 * l.length : Nat) : Int) ∧ r.2.length = l.length ∧ ∀ j, (hj : j < r.2.length) → r.2[j] = ⟨mt ((1 + 2 * j : Nat) : Int), mt ((2 + 2 * j : Nat) : Int)⟩) := by
  intro d
  induction d with
  | zero =>
    intro i l h hl hm
    refine EvP.step ?_
    simp only [laws_markLabelS.l0]
    have e : i = l.length := by omega
    exact EvP.neg (by omega) (EvP.now ⟨by rw [e], rfl, fun j hj => hm j hj (by rw [e]; exact hj)⟩)
  | succ d ih =>
    intro i l h hl hm
    have hi : i < l.length := by omega
    have hi20 : i ≤ 200 := by omega
    refine EvP.step ?_
    simp only [laws_markLabelS.l0, rdL l i hi, Int.toNat_natCast]
    refine EvP.pos (by omega) (EvP.bind (hmt _ (by omega) (by omega)) (fun t et => ?_))
    subst et
    refine EvP.pos (by omega) (EvP.bind (P := fun y => y = l.set i ⟨mt ((1 + 2 * i : Nat) : Int), (l[i]).f1⟩) (EvP.now rfl) (fun y ey => ?_))
    subst ey
    rw [odd_w hi20]
    refine EvP.bind (hmt _ (by omega) (by omega)) (fun t et => ?_)
    subst et
    rw [even_w hi20, num_1 (show i ≤ l.length by omega) (show l.length ≤ 1000000 by omega), rd_set l i hi, List.set_set]
    have hls : (l.set i (⟨mt ((1 + 2 * i : Nat) : Int), mt ((2 + 2 * i : Nat) : Int)⟩ : SL)).length = l.length := List.length_set
    have hr := ih (i + 1) (l.set i ⟨mt ((1 + 2 * i : Nat) : Int), mt ((2 + 2 * i : Nat) : Int)⟩) (by rw [hls]; omega) (by rw [hls]; exact hl) (fun j hj hji => by
      rw [List.getElem_set]
      split
      · rename_i e
        rw [e]
      · rename_i e
        exact hm j (by rw [hls] at hj; exact hj) (by omega))
    rw [hls] at hr
    exact hr
theorem held_loop (mt : Int → ByteArray) (hmt : ∀ x : Int, 0 < x → x < 1000 → EvP (fun k => laws_markText.f k x) (fun r => r = mt x)) (l : List SL) (hl : l.length ≤ 200) (hm : ∀ j, (hj : j < l.length) → l[j] = ⟨mt ((1 + 2 * j : Nat) : Int), mt ((2 + 2 * j : Nat) : Int)⟩) : ∀ (d i : Nat), i + d = l.length →
    EvP (fun k => laws_heldLabelS.l0 k l ((1 + 2 * i : Nat) : Int) (i : Int)) (fun r => r = ((1 + 2 * l.length : Nat) : Int)) := by
  intro d
  induction d with
  | zero =>
    intro i h
    refine EvP.step ?_
    simp only [laws_heldLabelS.l0]
    have e : i = l.length := by omega
    exact EvP.neg (by omega) (EvP.now (by rw [e]))
  | succ d ih =>
    intro i h
    have hi : i < l.length := by omega
    have hi20 : i ≤ 200 := by omega
    refine EvP.step ?_
    simp only [laws_heldLabelS.l0, rdL l i hi, hm i hi]
    refine EvP.pos (by omega) (EvP.pos (by omega) (EvP.bind (hmt _ (by omega) (by omega)) (fun t et => ?_)))
    subst et
    refine EvP.pos rfl ?_
    rw [odd_w hi20]
    refine EvP.bind (hmt _ (by omega) (by omega)) (fun t et => ?_)
    subst et
    refine EvP.pos rfl ?_
    rw [even_w hi20, num_1 (show i ≤ l.length by omega) (show l.length ≤ 1000000 by omega)]
    exact ih (i + 1) (by omega)
theorem FnExactPartsOf : laws_FnExactPartsOf.Pure := by
  intro a0 a1 w0 w1
  obtain ⟨mt, hmt⟩ := marks
  have hlen := partsOf_len a0 a1
  have hbn : ∀ b : Bool, (b != b) = false := fun b => by cases b <;> rfl
  refine EvP.rounds ?_
  unfold laws_FnExactPartsOf.f
  refine EvP.ite (fun hc => EvP.now rfl) (fun hc => EvP.ite (fun hc => EvP.now rfl) (fun hc => ?_))
  refine EvP.bind (specPartsOf_ev a0 a1) (fun t e => ?_)
  subst e
  have himpl : EvP (fun _ : Nat => impl_PartsOf.f a0 a1) (fun r => r = partsOfM a0 a1) := EvP.now rfl
  generalize partsOfM a0 a1 = l at himpl hlen
  obtain ⟨l1, l2⟩ := l
  dsimp only at hlen
  refine EvP.bind himpl (fun t e => ?_)
  subst e
  refine EvP.bind (eq_ev l1 (by omega)) (fun b e => ?_)
  subst e
  refine EvP.pos rfl (EvP.step ?_)
  simp only [laws_FnExactPartsOf.j0, hbn]
  refine EvP.neg Bool.false_ne_true ?_
  have hmk : EvP (fun k => laws_markLabelS.f k l1 1) (fun r => r.1 = ((1 + 2 * l1.length : Nat) : Int) ∧ r.2.length = l1.length ∧ ∀ j, (hj : j < r.2.length) → r.2[j] = ⟨mt ((1 + 2 * j : Nat) : Int), mt ((2 + 2 * j : Nat) : Int)⟩) := by
    unfold laws_markLabelS.f
    exact mark_loop mt hmt l1.length 0 l1 (by omega) hlen (fun j hj h => absurd h (Nat.not_lt_zero j))
  refine EvP.bind hmk (fun bt hb => ?_)
  obtain ⟨h1, h2, h3⟩ := hb
  have hhd : EvP (fun k => laws_heldLabelS.f k bt.2 1) (fun r => r = bt.1) := by
    unfold laws_heldLabelS.f
    rw [h1, ← h2]
    exact held_loop mt hmt bt.2 (by omega) h3 bt.2.length 0 (by omega)
  refine EvP.bind hhd (fun r e => ?_)
  subst e
  refine EvP.neg (by omega) (EvP.pos rfl ?_)
  refine EvP.bind himpl (fun t' e => ?_)
  subst e
  refine EvP.bind (eq_ev l1 (by omega)) (fun b e => ?_)
  subst e
  refine EvP.pos rfl (EvP.step ?_)
  simp only [laws_FnExactPartsOf.j1, hbn]
  refine EvP.neg Bool.false_ne_true (EvP.bind hhd (fun r e => ?_))
  subst e
  exact EvP.neg (by omega) (EvP.pos rfl (EvP.now rfl))
end Go.Proofs.Ytpnldoegchjmmaa.Pure
