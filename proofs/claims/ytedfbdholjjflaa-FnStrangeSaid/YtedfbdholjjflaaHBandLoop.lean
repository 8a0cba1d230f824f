/- What bands are: the loops of the program's band and of the reference's. -/
import Derived.Test.YtedfbdholjjflaaHBandMath
import Derived.Test.YtedfbdholjjflaaAFnStrange
namespace Go.Proofs.Ytedfbdholjjflaa.PFnStrange
open Go.RowKit Go.Proofs.YtedfbdholjjflaaW.PrintWords Go.Proofs.YtedfbdholjjflaaW.PrintLast Go.Proofs.Ytedfbdholjjflaa.Evs Go.Proofs.Ytedfbdholjjflaa.AFnStrange
set_option linter.unusedVariables false
set_option linter.unusedSimpArgs false
theorem rdM_get (l : List SM) (i : Nat) (h : i < l.length) : rdM l (i : Int) = l[i] := getD_get _ l i h
/-! The reference's cut -/
def inT (a b : Int) (x : SM) : Bool := decide (a ≤ x.f0) && decide (x.f0 ≤ b)
theorem cut_loop (l : List SM) (a b : Int) (hl : l.length ≤ 1048576) : ∀ (d i : Nat) (acc : List SM), i + d = l.length → acc.length ≤ i → EvP (fun k => spec_l6Cut.l0 k a b acc l (l.length : Int) (i : Int)) (fun r => r = acc ++ (l.drop i).filter (inT a b)) := by
  intro d
  induction d with
  | zero =>
    intro i acc h ha
    refine EvP.step ?_
    simp only [spec_l6Cut.l0]
    refine EvP.neg (by omega) (EvP.now ?_)
    rw [List.drop_of_length_le (by omega), List.filter_nil, List.append_nil]
  | succ d ih =>
    intro i acc h ha
    have hi : i < l.length := by omega
    refine EvP.step ?_
    simp only [spec_l6Cut.l0, wrap_succ hi hl]
    rw [List.drop_eq_getElem_cons hi, ← rdM_get l i hi]
    refine EvP.pos (by omega) (EvP.pos (by omega) (EvP.pos (by omega) (EvP.ite (fun h1 => EvP.ite (fun h2 => ?_) (fun h2 => ?_)) (fun h1 => ?_))))
    · rw [List.filter_cons_of_pos (show inT a b (rdM l (i : Int)) = true by unfold inT; rw [decide_eq_true (show a ≤ (rdM l (i : Int)).f0 from h1), decide_eq_true (show (rdM l (i : Int)).f0 ≤ b from h2)]; rfl), List.append_cons acc (rdM l (i : Int)) ((l.drop (i + 1)).filter (inT a b))]
      exact EvP.pos (by omega) (ih (i + 1) (acc ++ [rdM l (i : Int)]) (by omega) (by rw [List.length_append]; exact Nat.succ_le_succ ha))
    · rw [List.filter_cons_of_neg (by unfold inT; rw [decide_eq_false (show ¬ (rdM l (i : Int)).f0 ≤ b from h2), Bool.and_false]; decide)]
      exact ih (i + 1) acc (by omega) (by omega)
    · rw [List.filter_cons_of_neg (by unfold inT; rw [decide_eq_false (show ¬ a ≤ (rdM l (i : Int)).f0 from h1), Bool.false_and]; decide)]
      exact ih (i + 1) acc (by omega) (by omega)
theorem filter_front (t : Int) : ∀ l : List SM, l.Pairwise (fun a b => a.f0 < b.f0) → l.filter (fun x => decide (x.f0 ≤ t)) = l.take (cntT l t)
  | [], _ => rfl
  | x :: xs, hp => by
    obtain ⟨hx, hxs⟩ := List.pairwise_cons.1 hp
    by_cases hxt : x.f0 ≤ t
    · have e : cntT (x :: xs) t = cntT xs t + 1 := by
        unfold cntT
        rw [List.filter_cons_of_pos (by exact decide_eq_true hxt), List.length_cons]
      rw [e, List.take_succ_cons, List.filter_cons_of_pos (by exact decide_eq_true hxt), filter_front t xs hxs]
    · have e0 : (x :: xs).filter (fun x => decide (x.f0 ≤ t)) = [] := by
        rw [List.filter_cons_of_neg (by simpa using hxt), List.filter_eq_nil_iff.2 (fun y hy => by have := hx y hy; simp only [decide_eq_true_eq]; omega)]
      have e : cntT (x :: xs) t = 0 := by unfold cntT; rw [e0]; rfl
      rw [e, e0]
      rfl
def nonnegM (l : List SM) : Prop := ∀ x ∈ l, 0 ≤ x.f0
theorem specAt_ev (l : List SM) (hl : l.length ≤ 1048576) (hs : sortedM l = true) (hn : nonnegM l) (t look : Int) : EvP (fun k => spec_l6At.f k l t look) (fun r => r = atB l t look) := by
  have hs' := of_decide_eq_true hs
  have ec : l.filter (inT 0 t) = l.take (cntT l t) := by
    rw [← filter_front t l hs']
    refine List.filter_congr (fun x hx => ?_)
    unfold inT
    rw [decide_eq_true (hn x hx), Bool.true_and]
  obtain ⟨hm, _, _⟩ := cnt_split l hs t
  unfold spec_l6At.f atB
  refine EvP.bind (P := fun r => r = l.take (cntT l t)) ?_ (fun c hc => ?_)
  · have := cut_loop l 0 t hl l.length 0 [] (by omega) (Nat.le_refl _)
    rw [List.drop_zero, List.nil_append, ec] at this
    exact this
  · have hcl : c.length = cntT l t := by rw [hc, List.length_take]; omega
    refine EvP.ite (fun h0 => EvP.now ?_) (fun h0 => ?_)
    · rw [if_pos (by omega)]
    · have e0 : ¬ cntT l t = 0 := by omega
      rw [show (if cntT l t = 0 then ((0 : Int), (0 : Int), false) else atX (rdM l ((cntT l t : Int) - 1)) t look) = atX (rdM l ((cntT l t : Int) - 1)) t look from if_neg e0]
      rw [hcl, show wrap64 ((cntT l t : Int) - 1) = (cntT l t : Int) - 1 from wS64 (by omega) (by omega)]
      have er : rdM c ((cntT l t : Int) - 1) = rdM l ((cntT l t : Int) - 1) := by
        rw [show (cntT l t : Int) - 1 = ((cntT l t - 1 : Nat) : Int) by omega, rdM_get l _ (by omega), rdM_get c _ (by omega)]
        simp only [hc, List.getElem_take]
      refine EvP.pos (by omega) (EvP.pos (by omega) ?_)
      show EvP (fun _ => if (rdM c ((cntT l t : Int) - 1)).f0 < wrap64 (t - look) then some (0, 0, false) else if (rdM c ((cntT l t : Int) - 1)).f1 = -9223372036854775808 then some (0, 0, false) else some ((rdM c ((cntT l t : Int) - 1)).f0, (rdM c ((cntT l t : Int) - 1)).f1, true)) _
      rw [er]
      unfold atX
      refine EvP.ite (fun h1 => EvP.now (by rw [if_pos h1])) (fun h1 => ?_)
      rw [if_neg h1]
      refine EvP.ite (fun h2 => EvP.now (by rw [if_pos h2])) (fun h2 => EvP.now (by rw [if_neg h2]))
/-! The bands' values -/
def pickB (l : List SM) (tm s : Int) (i : Nat) : Option Int :=
  if tm - (i : Int) * s < 0 then none else if (atB l (tm - (i : Int) * s) (s - 1)).2.2 = true then some (atB l (tm - (i : Int) * s) (s - 1)).2.1 else none
def bandB (l : List SM) (tm s back width : Int) : Int × Int × Bool := finB ((List.range' 1 back.toNat).filterMap (pickB l tm s)) width
theorem times_s {i : Nat} {s : Int} (h1 : 1 ≤ i) (h2 : i ≤ 51) (hs : 1 ≤ s) (hs2 : s ≤ 1000000000000) : 1 ≤ (i : Int) * s ∧ (i : Int) * s ≤ 51000000000000 ∧ wrap64 ((i : Int) * s) = (i : Int) * s ∧ (i : Int) * s + s = ((i + 1 : Nat) : Int) * s := by
  have a : (i : Int) * s ≤ 51 * 1000000000000 := Int.mul_le_mul (by omega) hs2 (by omega) (by omega)
  have b : (1 : Int) * 1 ≤ (i : Int) * s := Int.mul_le_mul (by omega) hs (by omega) (by omega)
  refine ⟨by omega, by omega, wS64 (by omega) (by omega), ?_⟩
  rw [Int.natCast_add, Int.add_mul]
  omega
theorem pick_none {l : List SM} {tm s : Int} {i : Nat} (h : tm - (i : Int) * s < 0) : pickB l tm s i = none := by unfold pickB; rw [if_pos h]
theorem pick_no {l : List SM} {tm s : Int} {i : Nat} (h : ¬ tm - (i : Int) * s < 0) (h2 : ¬ (atB l (tm - (i : Int) * s) (s - 1)).2.2 = true) : pickB l tm s i = none := by unfold pickB; rw [if_neg h, if_neg h2]
theorem pick_some {l : List SM} {tm s : Int} {i : Nat} (h : ¬ tm - (i : Int) * s < 0) (h2 : (atB l (tm - (i : Int) * s) (s - 1)).2.2 = true) : pickB l tm s i = some (atB l (tm - (i : Int) * s) (s - 1)).2.1 := by unfold pickB; rw [if_neg h, if_pos h2]
theorem range_none (p : Nat → Option Int) (d i : Nat) (h : p i = none) : (List.range' i (d + 1)).filterMap p = (List.range' (i + 1) d).filterMap p := by rw [List.range'_succ, List.filterMap_cons_none h]
theorem range_some (p : Nat → Option Int) (d i : Nat) (x : Int) (h : p i = some x) : (List.range' i (d + 1)).filterMap p = x :: (List.range' (i + 1) d).filterMap p := by rw [List.range'_succ, List.filterMap_cons_some h]
theorem fin_few {v : List Int} {width : Int} (h : v.length < 2) : finB v width = (0, 0, false) := by unfold finB; rw [if_pos h]
theorem time_neg {t : Int} (h : t < 0) : timeB t = false := by unfold timeB; rw [decide_eq_false (by omega : ¬ 0 ≤ t)]; rfl
theorem time_ok {t : Int} (h : 0 ≤ t) (h2 : t ≤ 1000000000000) : timeB t = true := by unfold timeB; rw [decide_eq_true h, decide_eq_true h2]; rfl
theorem implBand_loop (l : List SM) (hl : l.length ≤ 1048576) (hs : sortedM l = true) (tm s back width : Int) (ht0 : 0 ≤ tm) (ht1 : tm ≤ 1000000000000) (hs0 : 1 ≤ s) (hs1 : s ≤ 1000000000000) (hb : back ≤ 50) :
    ∀ (d i : Nat) (v : List Int), 1 ≤ i → (i : Int) + (d : Int) = back + 1 → v.length < i → EvP (fun k => impl_band.l0 k l tm s back width v (i : Int)) (fun r => r = finB (v ++ (List.range' i d).filterMap (pickB l tm s)) width) := by
  intro d
  induction d with
  | zero =>
    intro i v h1 h hv
    refine EvP.step ?_
    simp only [impl_band.l0]
    refine EvP.neg (by omega) (EvP.ite (fun h2 => EvP.now ?_) (fun h2 => ?_))
    · rw [show (List.range' i 0).filterMap (pickB l tm s) = [] from rfl, List.append_nil, fin_few (by omega)]
    · rw [show (List.range' i 0).filterMap (pickB l tm s) = [] from rfl, List.append_nil]
      have := impl_l1_ev width v (by omega) (by omega) v.length 0 (by omega)
      rw [sumTo_zero] at this
      exact this
  | succ d ih =>
    intro i v h1 h hv
    have q1 : (i : Int) ≤ back := by omega
    have q2 : v.length < 17592186044416 := by omega
    have q3 : 1 ≤ i + 1 := by omega
    have q4 : ((i + 1 : Nat) : Int) + (d : Int) = back + 1 := by omega
    have q5 : v.length < i + 1 := by omega
    have q6 : i ≤ 51 := by omega
    have q7 : v.length ≤ 1048576 := by omega
    have e : wrap64 ((i : Int) + 1) = ((i + 1 : Nat) : Int) := by rw [wS64 (by omega) (by omega)]; omega
    have es : wrap64 (s - 1) = s - 1 := wS64 (by omega) (by omega)
    have et : ∀ p : Int, 1 ≤ p → p ≤ 51000000000000 → wrap64 (tm - p) = tm - p ∧ tm - p ≤ 1000000000000 := fun p a b => ⟨wS64 (by omega) (by omega), by omega⟩
    obtain ⟨p1, p2, p3, p4⟩ := times_s h1 q6 hs0 hs1
    obtain ⟨et1, et2⟩ := et _ p1 p2
    clear p1 p2 p4 et
    refine EvP.step ?_
    simp only [impl_band.l0, e, p3, et1, es]
    refine EvP.pos q1 (EvP.bind (P := fun r => r = timeB (tm - (i : Int) * s)) (by rw [impl_isTime_ev]; exact EvP.now rfl) (fun t ht => ?_))
    by_cases hn : tm - (i : Int) * s < 0
    · rw [range_none _ d i (pick_none hn)]
      refine EvP.neg (by rw [ht, time_neg hn]; decide) ?_
      exact ih (i + 1) v q3 q4 q5
    · refine EvP.pos (ht.trans (time_ok (Int.not_lt.1 hn) et2)) ?_
      refine EvP.bind (P := fun r => r = atB l (tm - (i : Int) * s) (s - 1)) (by unfold impl_sampleAt.f; rw [if_pos (by rw [hs, decide_eq_true hl]; rfl)]; exact EvP.now rfl) (fun b hb => ?_)
      subst hb
      refine EvP.ite (fun h2 => ?_) (fun h2 => ?_)
      · rw [range_some _ d i _ (pick_some hn h2), List.append_cons v _ ((List.range' (i + 1) d).filterMap (pickB l tm s))]
        exact EvP.pos q2 (ih (i + 1) _ q3 q4 (by rw [List.length_append]; exact Nat.succ_lt_succ hv))
      · rw [range_none _ d i (pick_no hn h2)]
        exact ih (i + 1) v q3 q4 q5
theorem implBand_ev (l : List SM) (hl : l.length ≤ 1048576) (hs : sortedM l = true) (tm s back width : Int) (ht0 : 0 ≤ tm) (ht1 : tm ≤ 1000000000000) (hs0 : 1 ≤ s) (hs1 : s ≤ 1000000000000) (hb0 : 0 ≤ back) (hb : back ≤ 50) : EvP (fun k => impl_band.f k l tm s back width) (fun r => r = bandB l tm s back width) := by
  unfold impl_band.f bandB
  exact implBand_loop l hl hs tm s back width ht0 ht1 hs0 hs1 hb back.toNat 1 [] (Nat.le_refl _) (by omega) (by decide)
theorem late_none (l : List SM) (tm s : Int) (hs0 : 1 ≤ s) : ∀ (d i : Nat), tm - (i : Int) * s < 0 → (List.range' i d).filterMap (pickB l tm s) = []
  | 0, _, _ => rfl
  | d + 1, i, h => by
    rw [range_none _ d i (pick_none h)]
    refine late_none l tm s hs0 d (i + 1) ?_
    rw [Int.natCast_add, Int.add_mul]
    omega
theorem spec_fin (v : List Int) (width : Int) (hv : v.length ≤ 1048576) : EvP (fun k => spec_l24Band.j1 k width v (sumF v)) (fun r => r = finB v width) := by
  refine EvP.step ?_
  simp only [spec_l24Band.j1]
  refine EvP.ite (fun h2 => EvP.now (by rw [fin_few (by omega)])) (fun h2 => ?_)
  have := spec_l1_ev width v (by omega) hv v.length 0 (by omega)
  rw [sqTo_zero] at this
  exact this
theorem sumF_app (v : List Int) (x : Int) : sumF (v ++ [x]) = wrap64 (sumF v + x) := by unfold sumF; rw [List.foldl_append]; rfl
theorem specBand_loop (l : List SM) (hl : l.length ≤ 1048576) (hs : sortedM l = true) (hn : nonnegM l) (tm s back width : Int) (ht0 : 0 ≤ tm) (ht1 : tm ≤ 1000000000000) (hs0 : 1 ≤ s) (hs1 : s ≤ 1000000000000) (hb : back ≤ 50) :
    ∀ (d i : Nat) (v : List Int), 1 ≤ i → (i : Int) + (d : Int) = back + 1 → v.length < i → EvP (fun k => spec_l24Band.l0 k l tm s back width v (sumF v) (i : Int)) (fun r => r = finB (v ++ (List.range' i d).filterMap (pickB l tm s)) width) := by
  intro d
  induction d with
  | zero =>
    intro i v h1 h hv
    refine EvP.step ?_
    simp only [spec_l24Band.l0]
    rw [show (List.range' i 0).filterMap (pickB l tm s) = [] from rfl, List.append_nil]
    exact EvP.neg (by omega) (spec_fin v width (by omega))
  | succ d ih =>
    intro i v h1 h hv
    have q1 : (i : Int) ≤ back := by omega
    have q2 : v.length < 17592186044416 := by omega
    have q3 : 1 ≤ i + 1 := by omega
    have q4 : ((i + 1 : Nat) : Int) + (d : Int) = back + 1 := by omega
    have q5 : v.length < i + 1 := by omega
    have q6 : i ≤ 51 := by omega
    have q7 : v.length ≤ 1048576 := by omega
    have e : wrap64 ((i : Int) + 1) = ((i + 1 : Nat) : Int) := by rw [wS64 (by omega) (by omega)]; omega
    have es : wrap64 (s - 1) = s - 1 := wS64 (by omega) (by omega)
    have et : ∀ p : Int, 1 ≤ p → p ≤ 51000000000000 → wrap64 (tm - p) = tm - p ∧ tm - p ≤ 1000000000000 := fun p a b => ⟨wS64 (by omega) (by omega), by omega⟩
    obtain ⟨p1, p2, p3, p4⟩ := times_s h1 q6 hs0 hs1
    obtain ⟨et1, et2⟩ := et _ p1 p2
    clear p1 p2 p4 et
    refine EvP.step ?_
    simp only [spec_l24Band.l0, e, p3, et1, es]
    refine EvP.pos q1 (EvP.ite (fun hneg => ?_) (fun hneg => ?_))
    · rw [late_none l tm s hs0 (d + 1) i hneg, List.append_nil]
      exact spec_fin v width q7
    · refine EvP.bind (specAt_ev l hl hs hn _ _) (fun b hb => ?_)
      subst hb
      refine EvP.ite (fun h2 => ?_) (fun h2 => ?_)
      · rw [range_some _ d i _ (pick_some hneg h2), List.append_cons v _ ((List.range' (i + 1) d).filterMap (pickB l tm s)), ← sumF_app]
        exact EvP.pos q2 (ih (i + 1) _ q3 q4 (by rw [List.length_append]; exact Nat.succ_lt_succ hv))
      · rw [range_none _ d i (pick_no hneg h2)]
        exact ih (i + 1) v q3 q4 q5
theorem specBand_ev (l : List SM) (hl : l.length ≤ 1048576) (hs : sortedM l = true) (hn : nonnegM l) (tm s back width : Int) (ht0 : 0 ≤ tm) (ht1 : tm ≤ 1000000000000) (hs0 : 1 ≤ s) (hs1 : s ≤ 1000000000000) (hb0 : 0 ≤ back) (hb : back ≤ 50) : EvP (fun k => spec_l24Band.f k l tm s back width) (fun r => r = bandB l tm s back width) := by
  unfold spec_l24Band.f bandB
  exact specBand_loop l hl hs hn tm s back width ht0 ht1 hs0 hs1 hb back.toNat 1 [] (Nat.le_refl _) (by omega) (by decide)
end Go.Proofs.Ytedfbdholjjflaa.PFnStrange
