/- Ints compared, marked and held; calls marked: what the law asks of its own helpers. -/
import Derived.Test.YtkehglgehbfcmaaEv
import Derived.Test.YtkehglgehbfcmaaPFnExactSelfTimesx5
import Derived.Test.YtkehglgehbfcmaaPFnExactSelfTimesx5
import Derived.Test.YtkehglgehbfcmaaPFnExactSelfTimesx5
import Derived.Test.YtkehglgehbfcmaaPFnExactSelfTimesx4
namespace Go.Proofs.Ytkehglgehbfcmaa.IntMark
open Go.RowKit Go.Proofs.Ytkehglgehbfcmaa.PFnExactSelfTimes Go.Proofs.YtkehglgehbfcmaaW.PrintWords Go.Proofs.YtkehglgehbfcmaaW.PrintLast Go.Proofs.Ytkehglgehbfcmaa.Evs
set_option linter.unusedVariables false
abbrev SK := S40
theorem wsucc (i : Nat) (h : (i : Int) ≤ 5000000000000) : wrap64 ((i : Int) + 1) = ((i + 1 : Nat) : Int) := by rw [Evs.w64 (by omega) (by omega)]; omega
theorem eq_loop (l : List Int) (hl : l.length ≤ 100000) : ∀ (d i : Nat), i + d = l.length → EvP (fun k => laws_eqIntS.l0 k l l (i : Int)) (fun r => r = true)
  | 0, i, h => by
    refine EvP.step ?_
    simp only [laws_eqIntS.l0]
    exact EvP.neg (by omega) (EvP.now rfl)
  | d + 1, i, h => by
    refine EvP.step ?_
    simp only [laws_eqIntS.l0, wsucc i (by omega), if_true]
    have f1 : (i : Int) < (l.length : Int) := by omega
    first
    | exact EvP.pos f1 (EvP.pos (by omega) (eq_loop l hl d (i + 1) (by omega)))
    | exact EvP.pos f1 (EvP.pos (by omega) (EvP.pos f1 (eq_loop l hl d (i + 1) (by omega))))
theorem eq_ev (l : List Int) (hl : l.length ≤ 100000) : EvP (fun k => laws_eqIntS.f k l l) (fun r => r = true) := by
  unfold laws_eqIntS.f
  exact EvP.pos rfl (eq_loop l hl l.length 0 (by omega))
theorem mark_loop (n : Nat) (hn : n ≤ 100000) : ∀ (d i : Nat) (M : List Int), i + d = n → M.length = n → (∀ j : Nat, j < i → rd M (j : Int) = 1 + (j : Int)) →
    EvP (fun k => laws_markIntS.l0 k M (1 + (i : Int)) (i : Int)) (fun r => r.1 = 1 + (n : Int) ∧ r.2.length = n ∧ ∀ j : Nat, j < n → rd r.2 (j : Int) = 1 + (j : Int))
  | 0, i, M, h, hM, hj => by
    have e : i = n := by omega
    subst e
    refine EvP.step ?_
    simp only [laws_markIntS.l0]
    exact EvP.neg (by omega) (EvP.now ⟨rfl, hM, hj⟩)
  | d + 1, i, M, h, hM, hj => by
    have w1 : wrap64 (1 + (i : Int) + 1) = 1 + ((i + 1 : Nat) : Int) := by rw [Evs.w64 (by omega) (by omega)]; omega
    refine EvP.step ?_
    simp only [laws_markIntS.l0, w1, wsucc i (by omega), Int.toNat_natCast]
    refine EvP.pos (by omega) (EvP.pos (by omega) (mark_loop n hn d (i + 1) _ (by omega) (by rw [List.length_set]; exact hM) (fun j hj2 => ?_)))
    by_cases he : j = i
    · subst he
      show (M.set j (1 + (j : Int))).getD (j : Int).toNat 0 = _
      rw [Int.toNat_natCast, List.getD_eq_getElem?_getD, List.getElem?_set_self (by omega)]
      rfl
    · rw [← hj j (by omega)]
      show (M.set i (1 + (i : Int))).getD (j : Int).toNat 0 = M.getD (j : Int).toNat 0
      rw [Int.toNat_natCast, List.getD_eq_getElem?_getD, List.getD_eq_getElem?_getD, List.getElem?_set_ne (by omega)]
theorem mark_ev (M : List Int) (hn : M.length ≤ 100000) : EvP (fun k => laws_markIntS.f k M 1) (fun r => r.1 = 1 + (M.length : Int) ∧ r.2.length = M.length ∧ ∀ j : Nat, j < M.length → rd r.2 (j : Int) = 1 + (j : Int)) := by
  unfold laws_markIntS.f
  exact mark_loop M.length hn M.length 0 M (by omega) rfl (fun j hj => by omega)
theorem held_loop (n : Nat) (hn : n ≤ 100000) (M : List Int) (hM : M.length = n) (hj : ∀ j : Nat, j < n → rd M (j : Int) = 1 + (j : Int)) : ∀ (d i : Nat), i + d = n → EvP (fun k => laws_heldIntS.l0 k M (1 + (i : Int)) (i : Int)) (fun r => r = 1 + (n : Int))
  | 0, i, h => by
    have e : i = n := by omega
    subst e
    refine EvP.step ?_
    simp only [laws_heldIntS.l0]
    exact EvP.neg (by omega) (EvP.now rfl)
  | d + 1, i, h => by
    have w1 : wrap64 (1 + (i : Int) + 1) = 1 + ((i + 1 : Nat) : Int) := by rw [Evs.w64 (by omega) (by omega)]; omega
    refine EvP.step ?_
    simp only [laws_heldIntS.l0, w1, wsucc i (by omega), hj i (by omega)]
    first
    | exact EvP.pos (by omega) (EvP.pos (by omega) (EvP.pos rfl (held_loop n hn M hM hj d (i + 1) (by omega))))
    | exact EvP.pos (by omega) (EvP.pos (by omega) (held_loop n hn M hM hj d (i + 1) (by omega)))
    | (simp only [if_true]; exact EvP.pos (by omega) (EvP.pos (by omega) (held_loop n hn M hM hj d (i + 1) (by omega))))
theorem held_ev (n : Nat) (hn : n ≤ 100000) (M : List Int) (hM : M.length = n) (hj : ∀ j : Nat, j < n → rd M (j : Int) = 1 + (j : Int)) : EvP (fun k => laws_heldIntS.f k M 1) (fun r => r = 1 + (n : Int)) := by
  unfold laws_heldIntS.f
  exact held_loop n hn M hM hj n 0 (by omega)
/-! ### marks of calls: they come to an end -/
theorem markText_loop : ∀ (d : Nat) (x : Int) (s : ByteArray), 0 ≤ x → x ≤ 1000000000000 → x.toNat < 10 ^ d → s.size + d ≤ 1000 → EvP (fun k => laws_markText.l0 k x s) (fun _ => True) := by
  intro d
  induction d with
  | zero =>
    intro x s h0 h1 hx hs
    refine EvP.step ?_
    simp only [laws_markText.l0]
    exact EvP.neg (by omega) (EvP.pos (by omega) (EvP.now trivial))
  | succ d ih =>
    intro x s h0 h1 hx hs
    refine EvP.step ?_
    simp only [laws_markText.l0]
    refine EvP.ite (fun hp => ?_) (fun hp => EvP.pos (by omega) (EvP.now trivial))
    refine EvP.bind (P := fun y => y = [(wrap64 (48 + (Int.tmod x 10))) % 256]) (EvP.now rfl) (fun y e => ?_)
    have hlen : (strOfNums y).size = 1 := by subst e; rfl
    have ht : wrap64 (Int.tdiv x 10) = x / 10 := by rw [Int.tdiv_eq_ediv_of_nonneg h0, Evs.w64 (by omega) (by omega)]
    rw [ht]
    refine EvP.pos (by omega) (ih _ _ (by omega) (by omega) ?_ (by rw [ByteArray.size_append]; omega))
    have : 10 ^ (d + 1) = 10 ^ d * 10 := Nat.pow_succ ..
    omega
theorem markText_ev (x : Int) (h0 : 0 ≤ x) (h1 : x ≤ 100000000) : EvP (fun k => laws_markText.f k x) (fun _ => True) := by
  unfold laws_markText.f
  exact EvP.ite (fun _ => EvP.now trivial) (fun _ => markText_loop 12 x _ h0 (by omega) (by omega) (by decide))
theorem markCalls_loop (n : Nat) (hn : n ≤ 1048576) : ∀ (d i : Nat) (M : List SK), i + d = n → M.length = n → EvP (fun k => laws_markCallS.l0 k M (1 + 7 * (i : Int)) (i : Int)) (fun r => 0 ≤ r.1) := by
  intro d
  induction d with
  | zero =>
    intro i M h hM
    refine EvP.step ?_
    simp only [laws_markCallS.l0]
    refine EvP.neg (by omega) (EvP.now ?_)
    show 0 ≤ 1 + 7 * (i : Int)
    omega
  | succ d ih =>
    intro i M h hM
    have w : ∀ c : Int, 1 ≤ c → c ≤ 6 → wrap64 (c + 7 * (i : Int) + 1) = (c + 1) + 7 * (i : Int) := fun c h1 h2 => by rw [Evs.w64 (by omega) (by omega)]; omega
    have w1 := w 1 (by omega) (by omega); have w2 := w 2 (by omega) (by omega); have w3 := w 3 (by omega) (by omega); have w4 := w 4 (by omega) (by omega); have w5 := w 5 (by omega) (by omega); have w6 := w 6 (by omega) (by omega)
    simp only [show (1 : Int) + 1 = 2 from rfl, show (2 : Int) + 1 = 3 from rfl, show (3 : Int) + 1 = 4 from rfl, show (4 : Int) + 1 = 5 from rfl, show (5 : Int) + 1 = 6 from rfl, show (6 : Int) + 1 = 7 from rfl] at w1 w2 w3 w4 w5 w6
    have w7 : wrap64 (7 + 7 * (i : Int) + 1) = 1 + 7 * ((i + 1 : Nat) : Int) := by rw [Evs.w64 (by omega) (by omega)]; omega
    refine EvP.step ?_
    simp only [laws_markCallS.l0, w1, w2, w3, w4, w5, w6, w7, wsucc i (by omega)]
    refine EvP.pos (by omega) (EvP.pos (by omega) ?_)
    refine EvP.bind (P := fun y => y.length = n) (EvP.now (by rw [List.length_set]; exact hM)) (fun y1 e1 => ?_)
    refine EvP.bind (P := fun y => y.length = n) (EvP.now (by rw [List.length_set]; exact e1)) (fun y2 e2 => ?_)
    refine EvP.bind (markText_ev _ (by omega) (by omega)) (fun t1 _ => ?_)
    refine EvP.bind (P := fun y => y.length = n) (EvP.now (by rw [List.length_set]; exact e2)) (fun y3 e3 => ?_)
    refine EvP.bind (markText_ev _ (by omega) (by omega)) (fun t2 _ => ?_)
    refine EvP.bind (P := fun y => y.length = n) (EvP.now (by rw [List.length_set]; exact e3)) (fun y4 e4 => ?_)
    refine EvP.bind (P := fun y => y.length = n) (EvP.now (by rw [List.length_set]; exact e4)) (fun y5 e5 => ?_)
    first
    | exact ih (i + 1) _ (by omega) (by rw [List.length_set, List.length_set]; exact e5)
    | (refine EvP.bind (P := fun y => y.length = n) (EvP.now (by rw [List.length_set]; exact e5)) (fun y6 e6 => ?_)
       exact ih (i + 1) _ (by omega) (by rw [List.length_set]; exact e6))
theorem markCalls_ev (M : List SK) (hn : M.length ≤ 1048576) : EvP (fun k => laws_markCallS.f k M 1) (fun r => 0 ≤ r.1) := by
  unfold laws_markCallS.f
  exact markCalls_loop M.length hn M.length 0 M (by omega) rfl
end Go.Proofs.Ytkehglgehbfcmaa.IntMark
