/- Turning a list of parts round, the program's way and the reference's; marking parts and holding them. -/
import Derived.Test.YtcfijablfjbimaaEv
import Derived.Test.YtcfijablfjbimaaPFnExactCriticalPathx2
import Derived.Test.YtcfijablfjbimaaPFnExactCriticalPathx4
import Derived.Test.YtcfijablfjbimaaPFnExactCriticalPathx6
import Derived.Test.YtcfijablfjbimaaPFnExactCriticalPathx7
import Derived.Test.YtcfijablfjbimaaPFnExactCriticalPathx7
import Derived.Test.YtcfijablfjbimaaPFnExactCriticalPathx5
namespace Go.Proofs.Ytcfijablfjbimaa.PathRev
open Go.RowKit Go.Proofs.Ytcfijablfjbimaa.PFnExactCriticalPath Go.Proofs.YtcfijablfjbimaaW.PrintWords Go.Proofs.YtcfijablfjbimaaW.PrintLast Go.Proofs.Ytcfijablfjbimaa.Evs
set_option linter.unusedVariables false
abbrev SQ := S43
abbrev SK := S41
abbrev rdQ (l : List SQ) (i : Int) : SQ := rd_T43 l i
theorem rdQ_get (l : List SQ) (i : Nat) (h : i < l.length) : rdQ l (i : Int) = l[i] := getD_get _ l i h
theorem wsucc (i : Nat) (h : (i : Int) ≤ 5000000000000) : wrap64 ((i : Int) + 1) = ((i + 1 : Nat) : Int) := by rw [Evs.w64 (by omega) (by omega)]; omega
/-! ### the program's -/
theorem rev_loop (n : Nat) (hn : (n : Int) ≤ 2000000000000) (L : List SQ) (hL : L.length = n) : ∀ (d i : Nat) (M : List SQ), n ≤ i + i + d → i ≤ n → M.length = n → (∀ p (h : p < n), M[p]? = if p < i ∨ n ≤ p + i then L[n - 1 - p]? else L[p]?) →
    EvP (fun k => impl_PathPart.l0 k M (i : Int) ((n : Int) - 1 - (i : Int))) (fun r => r = L.reverse) := by
  have fin : ∀ (i : Nat) (M : List SQ), n ≤ i + i + 1 → M.length = n → (∀ p (h : p < n), M[p]? = if p < i ∨ n ≤ p + i then L[n - 1 - p]? else L[p]?) → M = L.reverse := by
    intro i M hi hM hp
    refine List.ext_getElem? (fun p => ?_)
    rcases Nat.lt_or_ge p n with h | h
    · rw [hp p h, List.getElem?_reverse (by omega), hL]
      split
      · rfl
      · rename_i hc
        rw [show n - 1 - p = p by omega]
    · rw [List.getElem?_eq_none (by omega), List.getElem?_eq_none (by simp; omega)]
  intro d
  induction d with
  | zero =>
    intro i M h1 h2 hM hp
    refine EvP.step ?_
    simp only [impl_PathPart.l0]
    exact EvP.neg (by omega) (EvP.now (fin i M (by omega) hM hp))
  | succ d ih =>
    intro i M h1 h2 hM hp
    refine EvP.step ?_
    simp only [impl_PathPart.l0]
    refine EvP.ite (fun hlt => ?_) (fun hge => EvP.now (fin i M (by omega) hM hp))
    obtain ⟨j, hj⟩ : ∃ j : Nat, (n : Int) - 1 - (i : Int) = (j : Int) := ⟨n - 1 - i, by omega⟩
    have hjn : j = n - 1 - i := by omega
    have hij : i < j := by omega
    rw [hj, wsucc i (by omega), show wrap64 ((j : Int) - 1) = (n : Int) - 1 - ((i + 1 : Nat) : Int) from by rw [Evs.w64 (by omega) (by omega)]; omega]
    have ri : rd_T43 M (i : Int) = M[i]'(by omega) := rdQ_get M i (by omega)
    have rj : rd_T43 M (j : Int) = M[j]'(by omega) := rdQ_get M j (by omega)
    rw [ri, rj, Int.toNat_natCast, Int.toNat_natCast]
    refine EvP.pos (by omega) (EvP.pos (by omega) (EvP.pos (by omega) (EvP.pos (by omega) ?_)))
    refine ih (i + 1) _ (by omega) (by omega) (by rw [List.length_set, List.length_set]; exact hM) (fun p h => ?_)
    have hi' := hp i (by omega)
    have hj' := hp j (by omega)
    rw [if_neg (by omega), List.getElem?_eq_getElem (by omega), List.getElem?_eq_getElem (by omega)] at hi'
    rw [if_neg (by omega), List.getElem?_eq_getElem (by omega), List.getElem?_eq_getElem (by omega)] at hj'
    rw [Option.some.inj hi', Option.some.inj hj']
    by_cases e1 : p = j
    · subst e1
      rw [List.getElem?_set_self (by rw [List.length_set]; omega), if_pos (by omega), show n - 1 - p = i by omega, List.getElem?_eq_getElem (by omega)]
    · rw [List.getElem?_set_ne (by omega)]
      by_cases e2 : p = i
      · subst e2
        rw [List.getElem?_set_self (by omega), if_pos (by omega), show n - 1 - p = j by omega, List.getElem?_eq_getElem (by omega)]
      · rw [List.getElem?_set_ne (by omega), hp p h]
        by_cases e3 : p < i ∨ n ≤ p + i
        · rw [if_pos e3, if_pos (by omega)]
        · rw [if_neg e3, if_neg (by omega)]
theorem implRev_ev (L : List SQ) (hL : (L.length : Int) ≤ 2000000000000) : EvP (fun k => impl_PathPart.f k L) (fun r => r = L.reverse) := by
  unfold impl_PathPart.f
  rw [Evs.w64 (by omega) (by omega)]
  have := rev_loop L.length hL L rfl L.length 0 L (by omega) (by omega) rfl (fun p h => by rw [if_neg (by omega)])
  simpa using this
/-! ### the reference's -/
theorem specRev_loop (L : List SQ) (hL : (L.length : Int) ≤ 2000000000000) : ∀ (i : Nat) (acc : List SQ), i ≤ L.length → acc = (L.drop i).reverse →
    EvP (fun k => spec_CriticalPath.l0 k L acc ((i : Int) - 1)) (fun r => r = L.reverse) := by
  intro i
  induction i with
  | zero =>
    intro acc h ha
    refine EvP.step ?_
    simp only [spec_CriticalPath.l0]
    exact EvP.neg (by omega) (EvP.now (by rw [ha]; rfl))
  | succ i ih =>
    intro acc h ha
    have hr : rd_T43 L (i : Int) = L[i]'(by omega) := rdQ_get L i (by omega)
    refine EvP.step ?_
    simp only [spec_CriticalPath.l0]
    rw [show ((i + 1 : Nat) : Int) - 1 = (i : Int) by omega, hr, Evs.w64 (by omega) (by omega)]
    refine EvP.pos (by omega) (EvP.pos (by omega) (EvP.pos (by omega) (EvP.pos (by rw [ha, List.length_reverse, List.length_drop]; omega) ?_)))
    refine ih _ (by omega) ?_
    rw [ha, List.drop_eq_getElem_cons (show i < L.length by omega), List.reverse_cons]
theorem specRev_ev (L : List SQ) (hL : (L.length : Int) ≤ 2000000000000) : EvP (fun k => spec_CriticalPath.l0 k L [] (wrap64 ((L.length : Int) - 1))) (fun r => r = L.reverse) := by
  rw [Evs.w64 (by omega) (by omega)]
  exact specRev_loop L hL L.length [] (Nat.le_refl _) (by rw [List.drop_length]; rfl)
/-! ### marks -/
def mk (j : Nat) : SQ := ⟨1 + 3 * (j : Int), 2 + 3 * (j : Int), 3 + 3 * (j : Int)⟩
theorem rd_set_same (M : List SQ) (i : Nat) (b : SQ) (h : i < M.length) : rdQ (M.set i b) (i : Int) = b := by
  rw [rdQ_get _ i (by rw [List.length_set]; exact h), List.getElem_set_self]
theorem rd_set_other (M : List SQ) (i j : Nat) (b : SQ) (h : j < M.length) (hij : i ≠ j) : rdQ (M.set i b) (j : Int) = rdQ M (j : Int) := by
  rw [rdQ_get _ j (by rw [List.length_set]; exact h), rdQ_get M j h, List.getElem_set_ne hij]
theorem three (i : Nat) (h : (i : Int) ≤ 2000000000000) : wrap64 (1 + 3 * (i : Int) + 1) = 2 + 3 * (i : Int) ∧ wrap64 (2 + 3 * (i : Int) + 1) = 3 + 3 * (i : Int) ∧ wrap64 (3 + 3 * (i : Int) + 1) = 1 + 3 * ((i + 1 : Nat) : Int) := by
  refine ⟨?_, ?_, ?_⟩ <;> (rw [Evs.w64 (by omega) (by omega)]; omega)
theorem mark_loop (n : Nat) (hn : (n : Int) ≤ 2000000000000) : ∀ (d i : Nat) (M : List SQ), i + d = n → M.length = n → (∀ j : Nat, j < i → rdQ M (j : Int) = mk j) →
    EvP (fun k => laws_markPathPartS.l0 k M (1 + 3 * (i : Int)) (i : Int)) (fun r => r.1 = 1 + 3 * (n : Int) ∧ r.2.length = n ∧ ∀ j : Nat, j < n → rdQ r.2 (j : Int) = mk j) := by
  intro d
  induction d with
  | zero =>
    intro i M h hM hj
    refine EvP.step ?_
    simp only [laws_markPathPartS.l0]
    refine EvP.neg (by omega) (EvP.now ⟨?_, hM, fun j hjn => hj j (by omega)⟩)
    show 1 + 3 * (i : Int) = 1 + 3 * (n : Int)
    omega
  | succ d ih =>
    intro i M h hM hj
    have hi : i < M.length := by omega
    obtain ⟨w1, w2, w3⟩ := three i (by omega)
    refine EvP.step ?_
    simp only [laws_markPathPartS.l0, w1, w2, w3, wsucc i (by omega), Int.toNat_natCast]
    refine EvP.pos (by omega) (EvP.pos (by omega) (EvP.bind (EvP.now (P := fun y => y = M.set i ⟨1 + 3 * (i : Int), (rdQ M (i : Int)).f1, (rdQ M (i : Int)).f2⟩) rfl) (fun y hy => ?_)))
    subst hy
    refine EvP.bind (EvP.now (P := fun y => y = (M.set i ⟨1 + 3 * (i : Int), (rdQ M (i : Int)).f1, (rdQ M (i : Int)).f2⟩).set i ⟨1 + 3 * (i : Int), 2 + 3 * (i : Int), (rdQ M (i : Int)).f2⟩) (by
      show List.set _ _ (⟨(rdQ _ _).f0, _, (rdQ _ _).f2⟩ : SQ) = _
      rw [rd_set_same M i _ hi])) (fun y hy => ?_)
    subst hy
    show EvP (fun k => laws_markPathPartS.l0 k (List.set _ i ⟨(rdQ _ (i : Int)).f0, (rdQ _ (i : Int)).f1, _⟩) (1 + 3 * ((i + 1 : Nat) : Int)) ((i + 1 : Nat) : Int)) _
    rw [rd_set_same (M.set i _) i _ (by rw [List.length_set]; exact hi)]
    refine ih (i + 1) _ (by omega) (by rw [List.length_set, List.length_set, List.length_set]; exact hM) (fun j hj2 => ?_)
    rcases Nat.lt_or_ge j i with hlt | hge
    · rw [rd_set_other _ i j _ (by rw [List.length_set, List.length_set]; omega) (by omega), rd_set_other _ i j _ (by rw [List.length_set]; omega) (by omega), rd_set_other M i j _ (by omega) (by omega)]
      exact hj j hlt
    · obtain rfl : j = i := by omega
      rw [rd_set_same _ j _ (by rw [List.length_set, List.length_set]; exact hi)]
      rfl
theorem mark_ev (M : List SQ) (hn : (M.length : Int) ≤ 2000000000000) : EvP (fun k => laws_markPathPartS.f k M 1) (fun r => r.1 = 1 + 3 * (M.length : Int) ∧ r.2.length = M.length ∧ ∀ j : Nat, j < M.length → rdQ r.2 (j : Int) = mk j) := by
  unfold laws_markPathPartS.f
  exact mark_loop M.length hn M.length 0 M (by omega) rfl (fun j hj => absurd hj (Nat.not_lt_zero _))
theorem held_loop (n : Nat) (hn : (n : Int) ≤ 2000000000000) (M : List SQ) (hM : M.length = n) (hj : ∀ j : Nat, j < n → rdQ M (j : Int) = mk j) : ∀ (d i : Nat), i + d = n →
    EvP (fun k => laws_heldPathPartS.l0 k M (1 + 3 * (i : Int)) (i : Int)) (fun r => r = 1 + 3 * (n : Int)) := by
  intro d
  induction d with
  | zero =>
    intro i h
    refine EvP.step ?_
    simp only [laws_heldPathPartS.l0]
    refine EvP.neg (by omega) (EvP.now ?_)
    omega
  | succ d ih =>
    intro i h
    obtain ⟨w1, w2, w3⟩ := three i (by omega)
    have he : rd_T43 M (i : Int) = mk i := hj i (by omega)
    refine EvP.step ?_
    simp only [laws_heldPathPartS.l0, w1, w2, w3, wsucc i (by omega), he]
    exact EvP.pos (by omega) (EvP.pos (by omega) (EvP.pos rfl (EvP.pos rfl (EvP.pos rfl (ih (i + 1) (by omega))))))
theorem held_ev (n : Nat) (hn : (n : Int) ≤ 2000000000000) (M : List SQ) (hM : M.length = n) (hj : ∀ j : Nat, j < n → rdQ M (j : Int) = mk j) : EvP (fun k => laws_heldPathPartS.f k M 1) (fun r => r = 1 + 3 * (n : Int)) := by
  unfold laws_heldPathPartS.f
  exact held_loop n hn M hM hj n 0 (by omega)
theorem eq_loop (l : List SQ) (hl : (l.length : Int) ≤ 2000000000000) : ∀ (d i : Nat), i + d = l.length → EvP (fun k => laws_eqPathPartS.l0 k l l (i : Int)) (fun r => r = true) := by
  intro d
  induction d with
  | zero =>
    intro i h
    refine EvP.step ?_
    simp only [laws_eqPathPartS.l0]
    exact EvP.neg (by omega) (EvP.now rfl)
  | succ d ih =>
    intro i h
    refine EvP.step ?_
    have he : ∀ x : SQ, laws_eqPathPart.f x.f0 x.f1 x.f2 x.f0 x.f1 x.f2 = some true := fun x => by unfold laws_eqPathPart.f; rw [if_pos rfl, if_pos rfl, if_pos rfl]
    simp only [laws_eqPathPartS.l0, he, Option.bind_some, wsucc i (by omega), if_true]
    exact EvP.pos (by omega) (EvP.pos (by omega) (by first | exact ih (i + 1) (by omega) | exact EvP.pos (by omega) (ih (i + 1) (by omega)) | exact EvP.pos (by omega) (EvP.pos (by omega) (ih (i + 1) (by omega)))))
theorem eq_ev (l : List SQ) (hl : (l.length : Int) ≤ 2000000000000) : EvP (fun k => laws_eqPathPartS.f k l l) (fun r => r = true) := by
  unfold laws_eqPathPartS.f
  first
  | exact EvP.pos rfl (eq_loop l hl l.length 0 (by omega))
  | exact EvP.neg (by simp) (eq_loop l hl l.length 0 (by omega))
/-! ### marks of calls: they come to an end -/
theorem markText_loop : ∀ (d : Nat) (x : Int) (s : ByteArray), 0 ≤ x → x ≤ 1000000000000 → x.toNat < 10 ^ d → s.size + d ≤ 1000 → EvP (fun k => laws_markText.l0 k x s) (fun _ => True) := by
  intro d
  induction d with
  | zero =>
    intro x s h0 h1 hx hs
    refine EvP.step ?_
    simp only [laws_markText.l0]
    exact EvP.neg (by omega) (EvP.pos (by omega) (EvP.now trivial))
  | succ d ih =>
    intro x s h0 h1 hx hs
    refine EvP.step ?_
    simp only [laws_markText.l0]
    refine EvP.ite (fun hp => ?_) (fun hp => EvP.pos (by omega) (EvP.now trivial))
    refine EvP.bind (P := fun y => y = [(wrap64 (48 + (Int.tmod x 10))) % 256]) (EvP.now rfl) (fun y e => ?_)
    have hlen : (strOfNums y).size = 1 := by subst e; rfl
    have ht : wrap64 (Int.tdiv x 10) = x / 10 := by rw [Int.tdiv_eq_ediv_of_nonneg h0, Evs.w64 (by omega) (by omega)]
    rw [ht]
    refine EvP.pos (by omega) (ih _ _ (by omega) (by omega) ?_ (by rw [ByteArray.size_append]; omega))
    have : 10 ^ (d + 1) = 10 ^ d * 10 := Nat.pow_succ ..
    omega
theorem markText_ev (x : Int) (h0 : 0 ≤ x) (h1 : x ≤ 100000000) : EvP (fun k => laws_markText.f k x) (fun _ => True) := by
  unfold laws_markText.f
  exact EvP.ite (fun _ => EvP.now trivial) (fun _ => markText_loop 12 x _ h0 (by omega) (by omega) (by decide))
theorem markCalls_loop (n : Nat) (hn : n ≤ 1048576) : ∀ (d i : Nat) (M : List SK), i + d = n → M.length = n → EvP (fun k => laws_markCallS.l0 k M (1 + 7 * (i : Int)) (i : Int)) (fun r => 0 ≤ r.1) := by
  intro d
  induction d with
  | zero =>
    intro i M h hM
    refine EvP.step ?_
    simp only [laws_markCallS.l0]
    refine EvP.neg (by omega) (EvP.now ?_)
    show 0 ≤ 1 + 7 * (i : Int)
    omega
  | succ d ih =>
    intro i M h hM
    have w : ∀ c : Int, 1 ≤ c → c ≤ 6 → wrap64 (c + 7 * (i : Int) + 1) = (c + 1) + 7 * (i : Int) := fun c h1 h2 => by rw [Evs.w64 (by omega) (by omega)]; omega
    have w1 := w 1 (by omega) (by omega); have w2 := w 2 (by omega) (by omega); have w3 := w 3 (by omega) (by omega); have w4 := w 4 (by omega) (by omega); have w5 := w 5 (by omega) (by omega); have w6 := w 6 (by omega) (by omega)
    simp only [show (1 : Int) + 1 = 2 from rfl, show (2 : Int) + 1 = 3 from rfl, show (3 : Int) + 1 = 4 from rfl, show (4 : Int) + 1 = 5 from rfl, show (5 : Int) + 1 = 6 from rfl, show (6 : Int) + 1 = 7 from rfl] at w1 w2 w3 w4 w5 w6
    have w7 : wrap64 (7 + 7 * (i : Int) + 1) = 1 + 7 * ((i + 1 : Nat) : Int) := by rw [Evs.w64 (by omega) (by omega)]; omega
    refine EvP.step ?_
    simp only [laws_markCallS.l0, w1, w2, w3, w4, w5, w6, w7, wsucc i (by omega)]
    refine EvP.pos (by omega) (EvP.pos (by omega) ?_)
    refine EvP.bind (P := fun y => y.length = n) (EvP.now (by rw [List.length_set]; exact hM)) (fun y1 e1 => ?_)
    refine EvP.bind (P := fun y => y.length = n) (EvP.now (by rw [List.length_set]; exact e1)) (fun y2 e2 => ?_)
    refine EvP.bind (markText_ev _ (by omega) (by omega)) (fun t1 _ => ?_)
    refine EvP.bind (P := fun y => y.length = n) (EvP.now (by rw [List.length_set]; exact e2)) (fun y3 e3 => ?_)
    refine EvP.bind (markText_ev _ (by omega) (by omega)) (fun t2 _ => ?_)
    refine EvP.bind (P := fun y => y.length = n) (EvP.now (by rw [List.length_set]; exact e3)) (fun y4 e4 => ?_)
    refine EvP.bind (P := fun y => y.length = n) (EvP.now (by rw [List.length_set]; exact e4)) (fun y5 e5 => ?_)
    first
    | exact ih (i + 1) _ (by omega) (by rw [List.length_set, List.length_set]; exact e5)
    | (refine EvP.bind (P := fun y => y.length = n) (EvP.now (by rw [List.length_set]; exact e5)) (fun y6 e6 => ?_)
       exact ih (i + 1) _ (by omega) (by rw [List.length_set]; exact e6))
theorem markCalls_ev (M : List SK) (hn : M.length ≤ 1048576) : EvP (fun k => laws_markCallS.f k M 1) (fun r => 0 ≤ r.1) := by
  unfold laws_markCallS.f
  exact markCalls_loop M.length hn M.length 0 M (by omega) rfl
end Go.Proofs.Ytcfijablfjbimaa.PathRev
