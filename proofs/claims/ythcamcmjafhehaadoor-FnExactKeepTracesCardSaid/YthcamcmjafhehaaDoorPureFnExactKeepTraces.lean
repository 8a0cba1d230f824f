/- The program's KeepTraces returns what the reference's returns, for all policies and traces; its answer owns its memory. No further condition. -/
import Derived.Test.YthcamcmjafhehaaDoorKeepPlain
import Derived.Test.YthcamcmjafhehaaDoorPFnExactKeepTracesx9
namespace Go.Proofs.YthcamcmjafhehaaDoor.PureFnExactKeepTraces
open Go.RowKit Go.Proofs.YthcamcmjafhehaaDoor.PFnExactKeepTraces Go.Proofs.YthcamcmjafhehaaDoorW.PrintWords Go.Proofs.YthcamcmjafhehaaDoorW.PrintLast Go.Proofs.YthcamcmjafhehaaDoor.Opn Go.Proofs.YthcamcmjafhehaaDoor.GFnExactKeepTraces Go.Proofs.YthcamcmjafhehaaDoor.Evs Go.Proofs.YthcamcmjafhehaaDoor.BFnExactKeepTraces Go.Proofs.YthcamcmjafhehaaDoor.KeepPlain
set_option linter.unusedVariables false
/-! ### bools compared, marked and held -/
theorem eq_loop (l : List Bool) (hl : l.length ≤ 100000) : ∀ (d i : Nat), i + d = l.length → EvP (fun k => laws_eqBoolS.l0 k l l (i : Int)) (fun r => r = true)
  | 0, i, h => by
    refine EvP.step ?_
    simp only [laws_eqBoolS.l0]
    exact EvP.neg (by omega) (EvP.now rfl)
  | d + 1, i, h => by
    refine EvP.step ?_
    simp only [laws_eqBoolS.l0, wsucc i (by omega)]
    exact EvP.pos (by omega) (EvP.pos (by omega) (EvP.pos (by omega) (EvP.neg (by simp) (eq_loop l hl d (i + 1) (by omega)))))
theorem eq_ev (l : List Bool) (hl : l.length ≤ 100000) : EvP (fun k => laws_eqBoolS.f k l l) (fun r => r = true) := by
  unfold laws_eqBoolS.f
  exact EvP.pos rfl (eq_loop l hl l.length 0 (by omega))
def mkB (j : Nat) : Bool := Int.tmod (1 + (j : Int)) 3 == 0
theorem mark_loop (n : Nat) (hn : n ≤ 100000) : ∀ (d i : Nat) (M : List Bool), i + d = n → M.length = n → (∀ j : Nat, j < i → rdOf false M (j : Int) = mkB j) →
    EvP (fun k => laws_markBoolS.l0 k M (1 + (i : Int)) (i : Int)) (fun r => r.1 = 1 + (n : Int) ∧ r.2.length = n ∧ ∀ j : Nat, j < n → rdOf false r.2 (j : Int) = mkB j)
  | 0, i, M, h, hM, hj => by
    have e : i = n := by omega
    subst e
    refine EvP.step ?_
    simp only [laws_markBoolS.l0]
    exact EvP.neg (by omega) (EvP.now ⟨rfl, hM, hj⟩)
  | d + 1, i, M, h, hM, hj => by
    have w1 : wrap64 (1 + (i : Int) + 1) = 1 + ((i + 1 : Nat) : Int) := by rw [Evs.w64 (by omega) (by omega)]; omega
    refine EvP.step ?_
    simp only [laws_markBoolS.l0, w1, wsucc i (by omega), Int.toNat_natCast]
    refine EvP.pos (by omega) (EvP.pos (by omega) (mark_loop n hn d (i + 1) _ (by omega) (by rw [List.length_set]; exact hM) (fun j hj2 => ?_)))
    rw [rdOf_get false _ j (by rw [List.length_set]; omega)]
    by_cases he : j = i
    · subst he
      rw [List.getElem_set_self]
      rfl
    · rw [List.getElem_set_ne (fun h => he h.symm), ← hj j (by omega), rdOf_get false M j (by omega)]
theorem mark_ev (M : List Bool) (hn : M.length ≤ 100000) : EvP (fun k => laws_markBoolS.f k M 1) (fun r => r.1 = 1 + (M.length : Int) ∧ r.2.length = M.length ∧ ∀ j : Nat, j < M.length → rdOf false r.2 (j : Int) = mkB j) := by
  unfold laws_markBoolS.f
  exact mark_loop M.length hn M.length 0 M (by omega) rfl (fun j hj => by omega)
theorem held_loop (n : Nat) (hn : n ≤ 100000) (M : List Bool) (hM : M.length = n) (hj : ∀ j : Nat, j < n → rdOf false M (j : Int) = mkB j) : ∀ (d i : Nat), i + d = n → EvP (fun k => laws_heldBoolS.l0 k M (1 + (i : Int)) (i : Int)) (fun r => r = 1 + (n : Int))
  | 0, i, h => by
    have e : i = n := by omega
    subst e
    refine EvP.step ?_
    simp only [laws_heldBoolS.l0]
    exact EvP.neg (by omega) (EvP.now rfl)
  | d + 1, i, h => by
    have w1 : wrap64 (1 + (i : Int) + 1) = 1 + ((i + 1 : Nat) : Int) := by rw [Evs.w64 (by omega) (by omega)]; omega
    refine EvP.step ?_
    simp only [laws_heldBoolS.l0, w1, wsucc i (by omega), hj i (by omega)]
    refine EvP.pos (by omega) (EvP.pos (by omega) (EvP.neg ?_ (held_loop n hn M hM hj d (i + 1) (by omega))))
    unfold mkB
    simp
theorem held_ev (n : Nat) (hn : n ≤ 100000) (M : List Bool) (hM : M.length = n) (hj : ∀ j : Nat, j < n → rdOf false M (j : Int) = mkB j) : EvP (fun k => laws_heldBoolS.f k M 1) (fun r => r = 1 + (n : Int)) := by
  unfold laws_heldBoolS.f
  exact held_loop n hn M hM hj n 0 (by omega)
/-! ### marks of policies and of traces: they come to an end -/
theorem markText_loop : ∀ (d : Nat) (x : Int) (s : ByteArray), 0 ≤ x → x ≤ 1000000000000000 → x.toNat < 10 ^ d → s.size + d ≤ 1000 → EvP (fun k => laws_markText.l0 k x s) (fun _ => True) := by
  intro d
  induction d with
  | zero =>
    intro x s h0 h1 hx hs
    refine EvP.step ?_
    simp only [laws_markText.l0]
    exact EvP.neg (by omega) (EvP.pos (by omega) (EvP.now trivial))
  | succ d ih =>
    intro x s h0 h1 hx hs
    refine EvP.step ?_
    simp only [laws_markText.l0]
    refine EvP.ite (fun hp => ?_) (fun hp => EvP.pos (by omega) (EvP.now trivial))
    refine EvP.bind (P := fun y => y = [(wrap64 (48 + (Int.tmod x 10))) % 256]) (EvP.now rfl) (fun y e => ?_)
    have hlen : (strOfNums y).size = 1 := by subst e; rfl
    have ht : wrap64 (Int.tdiv x 10) = x / 10 := by rw [Int.tdiv_eq_ediv_of_nonneg h0, Evs.w64 (by omega) (by omega)]
    rw [ht]
    refine EvP.pos (by omega) (ih _ _ (by omega) (by omega) ?_ (by rw [ByteArray.size_append]; omega))
    have : 10 ^ (d + 1) = 10 ^ d * 10 := Nat.pow_succ ..
    omega
theorem markText_ev (x : Int) (h0 : 0 ≤ x) (h1 : x ≤ 1000000000000000) : EvP (fun k => laws_markText.f k x) (fun _ => True) := by
  unfold laws_markText.f
  exact EvP.ite (fun _ => EvP.now trivial) (fun _ => markText_loop 16 x _ h0 (by omega) (by omega) (by decide))
theorem markPol_loop (n : Nat) (hn : n ≤ 1048576) : ∀ (d i : Nat) (M : List SPo), i + d = n → M.length = n → EvP (fun k => laws_markPolicyS.l0 k M (1 + 3 * (i : Int)) (i : Int)) (fun r => r.1 = 1 + 3 * (n : Int)) := by
  intro d
  induction d with
  | zero =>
    intro i M h hM
    have e : i = n := by omega
    subst e
    refine EvP.step ?_
    simp only [laws_markPolicyS.l0]
    exact EvP.neg (by omega) (EvP.now rfl)
  | succ d ih =>
    intro i M h hM
    have w1 : wrap64 (1 + 3 * (i : Int) + 1) = 2 + 3 * (i : Int) := by rw [Evs.w64 (by omega) (by omega)]; omega
    have w2 : wrap64 (2 + 3 * (i : Int) + 1) = 3 + 3 * (i : Int) := by rw [Evs.w64 (by omega) (by omega)]; omega
    have w3 : wrap64 (3 + 3 * (i : Int) + 1) = 1 + 3 * ((i + 1 : Nat) : Int) := by rw [Evs.w64 (by omega) (by omega)]; omega
    refine EvP.step ?_
    simp only [laws_markPolicyS.l0, w1, w2, w3, wsucc i (by omega)]
    refine EvP.pos (by omega) (EvP.pos (by omega) ?_)
    refine EvP.bind (P := fun y => y.length = n) (EvP.now (by rw [List.length_set]; exact hM)) (fun y1 e1 => ?_)
    refine EvP.bind (P := fun y => y.length = n) (EvP.now (by rw [List.length_set]; exact e1)) (fun y2 e2 => ?_)
    refine EvP.bind (markText_ev _ (by omega) (by omega)) (fun t1 _ => ?_)
    exact ih (i + 1) _ (by omega) (by rw [List.length_set]; exact e2)
theorem markPol_ev (M : List SPo) (hn : M.length ≤ 1048576) : EvP (fun k => laws_markPolicyS.f k M 1) (fun r => r.1 = 1 + 3 * (M.length : Int)) := by
  unfold laws_markPolicyS.f
  exact markPol_loop M.length hn M.length 0 M (by omega) rfl
theorem markCalls_loop (n : Nat) (hn : n ≤ 1048576) (a : Int) (ha : 1 ≤ a) (ha2 : a ≤ 500000000000000) : ∀ (d i : Nat) (M : List SC), i + d = n → M.length = n → EvP (fun k => laws_markCallS.l0 k M (a + 7 * (i : Int)) (i : Int)) (fun r => r.1 = a + 7 * (n : Int)) := by
  intro d
  induction d with
  | zero =>
    intro i M h hM
    have e : i = n := by omega
    subst e
    refine EvP.step ?_
    simp only [laws_markCallS.l0]
    exact EvP.neg (by omega) (EvP.now rfl)
  | succ d ih =>
    intro i M h hM
    have w : ∀ c : Int, 0 ≤ c → c ≤ 6 → wrap64 (a + 7 * (i : Int) + c + 1) = a + 7 * (i : Int) + (c + 1) := fun c h1 h2 => by rw [Evs.w64 (by omega) (by omega)]; omega
    have w0 : wrap64 (a + 7 * (i : Int) + 1) = a + 7 * (i : Int) + 1 := Evs.w64 (by omega) (by omega)
    have w1 := w 1 (by omega) (by omega); have w2 := w 2 (by omega) (by omega); have w3 := w 3 (by omega) (by omega); have w4 := w 4 (by omega) (by omega); have w5 := w 5 (by omega) (by omega)
    simp only [show (1 : Int) + 1 = 2 from rfl, show (2 : Int) + 1 = 3 from rfl, show (3 : Int) + 1 = 4 from rfl, show (4 : Int) + 1 = 5 from rfl, show (5 : Int) + 1 = 6 from rfl] at w1 w2 w3 w4 w5
    have w6 : wrap64 (a + 7 * (i : Int) + 6 + 1) = a + 7 * ((i + 1 : Nat) : Int) := by rw [Evs.w64 (by omega) (by omega)]; omega
    refine EvP.step ?_
    simp only [laws_markCallS.l0, w0, w1, w2, w3, w4, w5, w6, wsucc i (by omega)]
    refine EvP.pos (by omega) (EvP.pos (by omega) ?_)
    refine EvP.bind (P := fun y => y.length = n) (EvP.now (by rw [List.length_set]; exact hM)) (fun y1 e1 => ?_)
    refine EvP.bind (P := fun y => y.length = n) (EvP.now (by rw [List.length_set]; exact e1)) (fun y2 e2 => ?_)
    refine EvP.bind (markText_ev _ (by omega) (by omega)) (fun t1 _ => ?_)
    refine EvP.bind (P := fun y => y.length = n) (EvP.now (by rw [List.length_set]; exact e2)) (fun y3 e3 => ?_)
    refine EvP.bind (markText_ev _ (by omega) (by omega)) (fun t2 _ => ?_)
    refine EvP.bind (P := fun y => y.length = n) (EvP.now (by rw [List.length_set]; exact e3)) (fun y4 e4 => ?_)
    refine EvP.bind (P := fun y => y.length = n) (EvP.now (by rw [List.length_set]; exact e4)) (fun y5 e5 => ?_)
    first
    | exact ih (i + 1) _ (by omega) (by rw [List.length_set, List.length_set]; exact e5)
    | (refine EvP.bind (P := fun y => y.length = n) (EvP.now (by rw [List.length_set]; exact e5)) (fun y6 e6 => ?_)
       exact ih (i + 1) _ (by omega) (by rw [List.length_set]; exact e6))
theorem markCalls_ev (M : List SC) (hn : M.length ≤ 1048576) (a : Int) (ha : 1 ≤ a) (ha2 : a ≤ 500000000000000) : EvP (fun k => laws_markCallS.f k M a) (fun r => r.1 = a + 7 * (M.length : Int)) := by
  unfold laws_markCallS.f
  have := markCalls_loop M.length hn a ha ha2 M.length 0 M (by omega) rfl
  simpa using this
theorem markT_ev : ∀ (l : List ST) (a : Int), (∀ t ∈ l, t.f1.length ≤ 1048576) → 0 ≤ a → a + 8000000 * (l.length : Int) ≤ 400000000000000 → EvP (fun k => markT k l a) (fun r => 0 ≤ r)
  | [], a, _, h0, _ => EvP.now h0
  | x :: xs, a, hl, h0, h1 => by
    have hx := hl x (List.mem_cons_self ..)
    simp only [List.length_cons] at h1
    simp only [markT]
    rw [Evs.w64 (x := a + 1) (by omega) (by omega)]
    refine EvP.bind (markCalls_ev x.f1 hx (a + 1) (by omega) (by omega)) (fun r e => ?_)
    rw [e]
    exact markT_ev xs _ (fun t ht => hl t (List.mem_cons_of_mem _ ht)) (by omega) (by omega)
/-! ### the law -/
theorem wf_all (l : List S82) (h : GoodL good82 l) : (l.map conv82).all wfCall = true := by
  rw [List.all_eq_true]
  intro y hy
  obtain ⟨z, hz, rfl⟩ := List.mem_map.1 hy
  obtain ⟨g0, g1, g2, g3, g4, g5, g6⟩ := h.2 z hz
  show (wfI z.f0 && wfI z.f1 && wfI z.f4) = true
  unfold wfI
  rw [g0, g1, g4]
  rfl
theorem law (l0 : List S41) (g0 : GoodL good41 l0) (l1 : List S45) (g1 : GoodL good45 l1) : ∃ k, laws_FnExactKeepTraces.f k l0 l1 = some true := by
  refine EvP.rounds ?_
  unfold laws_FnExactKeepTraces.f
  refine EvP.bind (szS22 l0 g0 1048576 (by omega) (by omega)) (fun r hr => ?_)
  refine EvP.ite (fun hc => EvP.now rfl) (fun hc => ?_)
  refine EvP.bind (szS23 l1 g1 r (by omega) hr.1) (fun r1 hr1 => ?_)
  refine EvP.ite (fun hc1 => EvP.now rfl) (fun hc1 => ?_)
  have hs0 := hr.2 (by omega)
  have hs1 := hr1.2 (by omega)
  have hto0 := toS22 l0 hs0
  have hto1 := toS23 l1 hs1
  have hi0 := small_convS22 l0 hs0
  have hi1 := small_convS23 l1 hs1
  have heq0 := eqS22 _ hi0
  have heq1 := eqS23 _ hi1
  have hwf : ∀ t ∈ l1.map conv45, t.f1.all wfCall = true ∧ t.f0 ≤ 9223372036854775807 := fun t ht => by
    obtain ⟨z, hz, rfl⟩ := List.mem_map.1 ht
    obtain ⟨g2, g3⟩ := g1.2 z hz
    exact ⟨wf_all _ g3, (Evs.wf_i64 g2).2⟩
  obtain ⟨o, hol, h1, h2⟩ := both (l0.map conv41) hi0.1 (l1.map conv45) hi1.1 hwf
  have heq := eq_ev o (by omega)
  refine EvP.bind hto0 (fun t e => ?_)
  subst e
  refine EvP.bind hto1 (fun t e => ?_)
  subst e
  refine EvP.bind h1 (fun t e => ?_)
  subst e
  refine EvP.bind hto0 (fun t' e => ?_)
  subst e
  refine EvP.bind hto1 (fun t' e => ?_)
  subst e
  refine EvP.bind h2 (fun q e => ?_)
  subst e
  refine EvP.bind heq (fun b e => ?_)
  subst e
  refine EvP.pos rfl (EvP.bind hto0 (fun t' e => ?_))
  subst e
  refine EvP.bind heq0 (fun b e => ?_)
  subst e
  refine EvP.pos rfl (EvP.bind hto1 (fun t' e => ?_))
  subst e
  refine EvP.bind heq1 (fun b e => ?_)
  subst e
  refine EvP.pos rfl (EvP.bind (markPol_ev _ hi0.1) (fun mk1 hm => ?_))
  have hml := hi0.1
  refine EvP.bind (P := fun r => 0 ≤ r) ?_ (fun mt hmt => ?_)
  · unfold laws_markTraceS.f
    refine EvP.pos hi1.1 (markT_ev _ _ (fun t ht => (hi1.2 t ht).2.1) (by omega) ?_)
    have := hi1.1
    omega
  refine EvP.neg (by omega) (EvP.bind heq (fun b e => ?_))
  subst e
  refine EvP.step ?_
  simp only [laws_FnExactKeepTraces.j0]
  refine EvP.neg (by decide) (EvP.bind (mark_ev q (by omega)) (fun mk2 hm2 => ?_))
  have hheld := held_ev q.length (by omega) mk2.2 hm2.2.1 hm2.2.2
  refine EvP.bind hheld (fun t' e => ?_)
  subst e
  refine EvP.neg (by omega) (EvP.pos hm2.1.symm (EvP.bind hto0 (fun v e => ?_)))
  subst e
  refine EvP.bind hto1 (fun v e => ?_)
  subst e
  refine EvP.bind h2 (fun t' e => ?_)
  subst e
  refine EvP.bind heq (fun b e => ?_)
  subst e
  refine EvP.pos rfl (EvP.bind hheld (fun t' e => ?_))
  subst e
  exact EvP.neg (by omega) (EvP.pos hm2.1.symm (EvP.now rfl))
end Go.Proofs.YthcamcmjafhehaaDoor.PureFnExactKeepTraces
