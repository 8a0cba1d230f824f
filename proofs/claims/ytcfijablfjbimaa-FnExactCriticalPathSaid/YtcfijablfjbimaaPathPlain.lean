/- A trace's critical path, in plain words: that it is there for a good trace, and that both sides come to it. -/
import Derived.Test.YtcfijablfjbimaaHCritical
import Derived.Test.YtcfijablfjbimaaHSpecTrace
import Derived.Test.YtcfijablfjbimaaPFnExactCriticalPathx4
namespace Go.Proofs.Ytcfijablfjbimaa.PathPlain
open Go.RowKit Go.Proofs.Ytcfijablfjbimaa.PFnExactCriticalPath Go.Proofs.YtcfijablfjbimaaW.PrintWords Go.Proofs.YtcfijablfjbimaaW.PrintLast Go.Proofs.Ytcfijablfjbimaa.Evs
set_option linter.unusedVariables false
abbrev rdK (l : List SC) (i : Int) : SC := rd_T41 l i
theorem rdK_get (l : List SC) (i : Nat) (h : i < l.length) : rdK l (i : Int) = l[i] := getD_get _ l i h
/-- The walk back through the calls, as a relation. -/
inductive PathR (l : List SC) : SC → Int → List SP → List SP → Prop
  | done {x m out} (hl : out.length < 5864062014805) (hb : bestV m (kidsM l x.f0) = none) : PathR l x m out (putM x.f0 x.f4 m out)
  | step {x m out b o1 o} (hl : out.length < 5864062014805) (hb : bestV m (kidsM l x.f0) = some b) (h1 : PathR l b (endM b m) (putM x.f0 (endM b m) m out) o1) (h2 : PathR l x b.f4 o1 o) : PathR l x m out o
theorem pathF_ev {l : List SC} {x : SC} {m : Int} {out o : List SP} (h : PathR l x m out o) : EvP (fun k => pathF l k x m out) (fun r => r = o) := by
  induction h with
  | done hl hb =>
    refine EvP.step ?_
    simp only [pathF, if_pos hl, hb]
    exact EvP.now rfl
  | step hl hb _ _ ih1 ih2 =>
    refine EvP.step ?_
    simp only [pathF, if_pos hl, hb]
    refine EvP.bind ih1 (fun q e => ?_)
    subst e
    exact ih2
/-! ### it is there -/
theorem best_mem (m : Int) : ∀ (l : List SC) (acc : Option SC) (b : SC), l.foldl (stepV m) acc = some b → (acc = some b) ∨ (b ∈ l ∧ canM m b = true)
  | [], acc, b, h => .inl h
  | x :: xs, acc, b, h => by
    rcases best_mem m xs _ b h with h1 | ⟨h1, h2⟩
    · unfold stepV at h1
      split at h1
      · rename_i hc
        obtain rfl := Option.some.inj h1
        rw [Bool.and_eq_true] at hc
        exact .inr ⟨List.mem_cons_self .., hc.1⟩
      · exact .inl h1
    · exact .inr ⟨List.mem_cons_of_mem _ h1, h2⟩
theorem best_of {m : Int} {l : List SC} {b : SC} (h : bestV m l = some b) : b ∈ l ∧ b.f4 < b.f5 ∧ b.f4 < m := by
  rcases best_mem m l none b h with h1 | ⟨h1, h2⟩
  · cases h1
  · unfold canM at h2
    rw [Bool.and_eq_true, decide_eq_true_iff, decide_eq_true_iff] at h2
    exact ⟨h1, h2⟩
theorem putM_len (n a b : Int) (out : List SP) (h : a ≤ b) (T : Int) (hT : (out.length : Int) + b ≤ T) : ((putM n a b out).length : Int) + a ≤ T := by
  unfold putM
  by_cases hab : a < b
  · rw [if_pos hab, List.length_append]; simp; omega
  · rw [if_neg hab]; omega
/-- What is asked of the calls: a kid stands behind its parent, and begins no earlier. -/
def Kin (l : List SC) : Prop := ∀ (i : Nat) (hi : i < l.length) (j : Nat) (hj : j < l.length), l[j].f1 = l[i].f0 → i < j ∧ l[i].f4 ≤ l[j].f4
theorem path_there (l : List SC) (hk : Kin l) (hpos : ∀ x ∈ l, 0 ≤ x.f4) : ∀ (d : Nat) (i : Nat) (hi : i < l.length), l.length - i ≤ d → ∀ (e : Nat) (m : Int) (out : List SP), (m - l[i].f4).toNat ≤ e → l[i].f4 ≤ m → (out.length : Int) + m ≤ 1000000000000 → ∃ o, PathR l l[i] m out o ∧ (o.length : Int) + l[i].f4 ≤ 1000000000000 := by
  intro d
  induction d with
  | zero => intro i hi hd; omega
  | succ d ihd =>
    intro i hi hd e
    induction e with
    | zero =>
      intro m out he hm hT
      have h4 := hpos _ (List.getElem_mem hi)
      cases hb : bestV m (kidsM l l[i].f0) with
      | none => exact ⟨_, .done (by omega) hb, putM_len _ _ _ _ hm _ hT⟩
      | some b =>
        obtain ⟨hbm, hb1, hb2⟩ := best_of hb
        unfold kidsM at hbm
        rw [List.mem_filter] at hbm
        obtain ⟨j, hj, rfl⟩ := List.mem_iff_getElem.1 hbm.1
        have := (hk i hi j hj (by simpa using hbm.2)).2
        omega
    | succ e ihe =>
      intro m out he hm hT
      have h4 := hpos _ (List.getElem_mem hi)
      cases hb : bestV m (kidsM l l[i].f0) with
      | none => exact ⟨_, .done (by omega) hb, putM_len _ _ _ _ hm _ hT⟩
      | some b =>
        obtain ⟨hbm, hb1, hb2⟩ := best_of hb
        have hbm' := hbm
        unfold kidsM at hbm
        rw [List.mem_filter] at hbm
        obtain ⟨j, hj, rfl⟩ := List.mem_iff_getElem.1 hbm.1
        obtain ⟨hij, hle⟩ := hk i hi j hj (by simpa using hbm.2)
        have hend : l[j].f4 ≤ endM l[j] m ∧ endM l[j] m ≤ m := by unfold endM; split <;> omega
        obtain ⟨o1, h1, hl1⟩ := ihd j hj (by omega) (endM l[j] m - l[j].f4).toNat (endM l[j] m) (putM l[i].f0 (endM l[j] m) m out) (Nat.le_refl _) hend.1 (putM_len _ _ _ _ hend.2 _ hT)
        obtain ⟨o, h2, hl2⟩ := ihe l[j].f4 o1 (by omega) hle hl1
        exact ⟨o, .step (by omega) hb h1 h2, hl2⟩
/-! ### a good trace's calls -/
theorem parFrom_some {l : List SC} {p f : Int} (h : parFrom l p = some f) : ∃ (j : Nat) (hj : j < l.length), l[j].f0 = p ∧ l[j].f4 = f := by
  induction l with
  | nil => cases h
  | cons x xs ih =>
    unfold parFrom at h
    split at h
    · rename_i hx
      exact ⟨0, by simp, hx, Option.some.inj h⟩
    · obtain ⟨j, hj, h1, h2⟩ := ih h
      exact ⟨j + 1, by simpa using hj, h1, h2⟩
structure GoodC (l : List SC) : Prop where
  kin : Kin l
  pos : ∀ x ∈ l, 0 ≤ x.f4
  top : ∀ x ∈ l, x.f4 ≤ x.f5 ∧ x.f5 ≤ 1000000000000
theorem good_of {id : Int} {l : List SC} (h : goodTraceB id l = true) : GoodC l ∧ 0 < l.length ∧ l.length ≤ 100 := by
  unfold goodTraceB at h
  simp only [Bool.and_eq_true, decide_eq_true_iff] at h
  obtain ⟨⟨⟨_, h1⟩, h2⟩, h3⟩ := h
  have ok : ∀ (i : Nat) (hi : i < l.length), badB l i = false ∧ kidB l i = true := fun i hi => by
    have := List.all_eq_true.1 h3 i (by rw [List.mem_range'_1]; omega)
    unfold okB at this
    simpa using this
  have b1 : ∀ (i : Nat) (hi : i < l.length), 1 ≤ l[i].f0 ∧ 0 ≤ l[i].f4 ∧ l[i].f4 ≤ l[i].f5 ∧ l[i].f5 ≤ 1000000000000 ∧ (0 < i → (rdK l ((i : Int) - 1)).f0 < l[i].f0) := fun i hi => by
    have hb := (ok i hi).1
    unfold badB at hb
    have hr : rd_T41 l (i : Int) = l[i] := rdK_get l i hi
    rw [hr] at hb
    simp only [Bool.or_eq_false_iff, Bool.and_eq_false_iff, decide_eq_false_iff_not, Bool.not_eq_false'] at hb
    obtain ⟨⟨⟨⟨⟨⟨c1, c2⟩, _⟩, _⟩, c3⟩, c4⟩, c5⟩ := hb
    unfold timeB at c3 c4
    simp only [Bool.and_eq_true, decide_eq_true_iff] at c3 c4
    refine ⟨by omega, c3.1, by omega, c4.2, fun h0 => ?_⟩
    rcases c2 with c2 | c2
    · omega
    · exact Int.not_le.1 c2
  have rise : ∀ (d i : Nat) (h : i + d + 1 < l.length), l[i].f0 < l[i + d + 1].f0 := by
    intro d
    induction d with
    | zero =>
      intro i h
      have := (b1 (i + 1) h).2.2.2.2 (by omega)
      rw [show (((i + 1 : Nat) : Int) - 1) = (i : Int) by omega, rdK_get l i (by omega)] at this
      exact this
    | succ d ih =>
      intro i h
      have h1 := ih i (by omega)
      have := (b1 (i + (d + 1) + 1) h).2.2.2.2 (by omega)
      rw [show (((i + (d + 1) + 1 : Nat) : Int) - 1) = ((i + d + 1 : Nat) : Int) by omega, rdK_get l (i + d + 1) (by omega)] at this
      omega
  have uniq : ∀ (i j : Nat) (hi : i < l.length) (hj : j < l.length), l[i].f0 = l[j].f0 → i = j := fun i j hi hj he => by
    rcases Nat.lt_trichotomy i j with h | h | h
    · have := rise (j - i - 1) i (by omega)
      simp only [show i + (j - i - 1) + 1 = j by omega] at this
      omega
    · exact h
    · have := rise (i - j - 1) j (by omega)
      simp only [show j + (i - j - 1) + 1 = i by omega] at this
      omega
  refine ⟨⟨fun i hi j hj he => ?_, fun x hx => ?_, fun x hx => ?_⟩, by omega, h2⟩
  · have hkb := (ok j hj).2
    unfold kidB at hkb
    have hr : rd_T41 l (j : Int) = l[j] := rdK_get l j hj
    rw [hr] at hkb
    by_cases hj0 : j = 0
    · rw [if_pos hj0] at hkb
      have := of_decide_eq_true hkb
      have := (b1 i hi).1
      omega
    · rw [if_neg hj0] at hkb
      cases hp : parFrom (l.take j) l[j].f1 with
      | none => rw [hp] at hkb; cases hkb
      | some f =>
        rw [hp] at hkb
        obtain ⟨p, hpl, h4, h5⟩ := parFrom_some hp
        rw [List.length_take] at hpl
        rw [List.getElem_take] at h4 h5
        have e := uniq i p hi (by omega) (by rw [h4]; exact he.symm)
        subst e
        have := of_decide_eq_true hkb
        exact ⟨by omega, by omega⟩
  · obtain ⟨i, hi, rfl⟩ := List.mem_iff_getElem.1 hx
    exact (b1 i hi).2.1
  · obtain ⟨i, hi, rfl⟩ := List.mem_iff_getElem.1 hx
    exact ⟨(b1 i hi).2.2.1, (b1 i hi).2.2.2.1⟩
/-! ### the reference's walk -/
def idxI : Option Nat → Int
  | none => -1
  | some j => j
def endI (l : List SC) (m : Int) : Option Nat → Int
  | none => 0
  | some j => endM (rdK l (j : Int)) m
theorem less_ev (a b : Int) : spec_l23Less.f a b = some (if a < b then a else b) := by
  unfold spec_l23Less.f
  split <;> rfl
theorem endM_eq (x : SC) (m : Int) : (if x.f5 < m then x.f5 else m) = endM x m := by
  unfold endM
  by_cases h1 : m < x.f5
  · rw [if_neg (by omega), if_pos h1]
  · rw [if_neg h1]
    by_cases h2 : x.f5 < m
    · rw [if_pos h2]
    · rw [if_neg h2]; omega
/-- The loop over the calls: it goes on with the best kid. -/
theorem specBest {l : List SC} (hl : l.length ≤ 1048576) (a0 : Int) (x : SC) (m : Int) (out o : List SP)
    (hj : ∀ (q : Option Nat), (∀ j, q = some j → j < l.length) → bestV m (kidsM l x.f0) = q.map (fun j : Nat => rdK l (j : Int)) → EvP (fun k => if idxI q ≥ 0 then spec_l23Path.j3 k m out (idxI q) (endI l m q) (endI l m q) a0 l x.f0 x.f1 x.f2 x.f3 x.f4 x.f5 x.f6 else spec_l23Path.j3 k m out (idxI q) (endI l m q) x.f4 a0 l x.f0 x.f1 x.f2 x.f3 x.f4 x.f5 x.f6) (fun r => r = o)) :
    ∀ (d i : Nat) (q : Option Nat), i + d = l.length → (∀ j, q = some j → j < l.length) → ((l.take i).filter (fun y => y.f1 == x.f0)).foldl (stepV m) none = q.map (fun j : Nat => rdK l (j : Int)) →
    EvP (fun k => spec_l23Path.l1 k m out (idxI q) (endI l m q) l (l.length : Int) (i : Int) a0 l x.f0 x.f1 x.f2 x.f3 x.f4 x.f5 x.f6) (fun r => r = o) := by
  intro d
  induction d with
  | zero =>
    intro i q hi hq hf
    refine EvP.step ?_
    simp only [spec_l23Path.l1]
    refine EvP.neg (by omega) ?_
    rw [List.take_of_length_le (by omega)] at hf
    exact hj q hq hf
  | succ d ih =>
    intro i q hi hq hf
    have hlt : i < l.length := by omega
    have hget : rd_T41 l (i : Int) = l[i] := rdK_get l i hlt
    refine EvP.step ?_
    simp only [spec_l23Path.l1, hget]
    refine EvP.pos (by omega) (EvP.pos (by omega) (EvP.pos (by omega) ?_))
    have ht : (l.take (i + 1)).filter (fun y => y.f1 == x.f0) = (l.take i).filter (fun y => y.f1 == x.f0) ++ (if (l[i].f1 == x.f0) = true then [l[i]] else []) := by
      rw [List.take_succ_eq_append_getElem hlt, List.filter_append]
      congr 1
      by_cases h : (l[i].f1 == x.f0) = true
      · rw [if_pos h]
        exact (List.filter_cons_of_pos (p := fun y : SC => y.f1 == x.f0) h).trans (by rw [List.filter_nil])
      · rw [if_neg h]
        exact (List.filter_cons_of_neg (p := fun y : SC => y.f1 == x.f0) (by simpa using h)).trans (by rw [List.filter_nil])
    have same : stepV m (q.map (fun j : Nat => rdK l (j : Int))) l[i] = q.map (fun j : Nat => rdK l (j : Int)) ∨ ¬ (l[i].f1 == x.f0) = true → EvP (fun k => spec_l23Path.l1 k m out (idxI q) (endI l m q) l (l.length : Int) (wrap64 ((i : Int) + 1)) a0 l x.f0 x.f1 x.f2 x.f3 x.f4 x.f5 x.f6) (fun r => r = o) := fun hs => by
      rw [wrap_succ hlt hl]
      refine ih (i + 1) q (by omega) hq ?_
      rw [ht, List.foldl_append, hf]
      rcases hs with hs | hs
      · split
        · exact hs
        · rfl
      · rw [if_neg hs]; rfl
    have skip : (stepV m (q.map (fun j : Nat => rdK l (j : Int))) l[i] = q.map (fun j : Nat => rdK l (j : Int)) ∨ ¬ (l[i].f1 == x.f0) = true) → EvP (fun k => spec_l23Path.j2 k m out (idxI q) (endI l m q) (i : Int) l (l.length : Int) (i : Int) true a0 l x.f0 x.f1 x.f2 x.f3 x.f4 x.f5 x.f6 l[i].f0 l[i].f1 l[i].f2 l[i].f3 l[i].f4 l[i].f5 l[i].f6) (fun r => r = o) := fun hs => by
      refine EvP.step ?_
      simp only [spec_l23Path.j2, if_true]
      exact same hs
    refine EvP.ite (fun hpar => ?_) (fun hpar => skip (.inr (by simpa using hpar)))
    refine EvP.ite (fun h1 => skip (.inl (by unfold stepV canM; rw [decide_eq_false (by omega : ¬ l[i].f4 < l[i].f5)]; rfl))) (fun h1 => ?_)
    by_cases h2 : l[i].f4 ≥ m
    · rw [decide_eq_true h2]
      exact skip (.inl (by unfold stepV canM; rw [decide_eq_false (by omega : ¬ l[i].f4 < m), Bool.and_false]; rfl))
    · rw [decide_eq_false h2]
      have hcan : canM m l[i] = true := by unfold canM; rw [decide_eq_true (by omega : l[i].f4 < l[i].f5), decide_eq_true (by omega : l[i].f4 < m)]; rfl
      refine EvP.step ?_
      simp only [spec_l23Path.j2, less_ev, Option.bind_some, endM_eq, wrap_succ hlt hl]
      refine EvP.neg (by decide) ?_
      have take : nextV m (q.map (fun j : Nat => rdK l (j : Int))) l[i] = true → EvP (fun k => spec_l23Path.l1 k m out (i : Int) (endM l[i] m) l (l.length : Int) ((i + 1 : Nat) : Int) a0 l x.f0 x.f1 x.f2 x.f3 x.f4 x.f5 x.f6) (fun r => r = o) := fun hn => by
        have := ih (i + 1) (some i) (by omega) (fun j e => by injection e with e; omega) (by
          rw [ht, if_pos (by simpa using hpar), List.foldl_append, hf]
          show stepV m _ l[i] = _
          unfold stepV
          rw [hcan, hn]
          show some l[i] = some (rdK l (i : Int))
          rw [rdK_get l i hlt])
        rw [show endI l m (some i) = endM l[i] m from by show endM (rdK l (i : Int)) m = _; rw [rdK_get l i hlt]] at this
        exact this
      cases q with
      | none => exact EvP.pos (by show (-1 : Int) < 0; omega) (take rfl)
      | some j =>
        refine EvP.neg (by show ¬ (j : Int) < 0; omega) ?_
        refine EvP.ite (fun h3 => take (decide_eq_true h3)) (fun h3 => ?_)
        have := same (.inl (by unfold stepV; rw [hcan, show nextV m (Option.map (fun j : Nat => rdK l (j : Int)) (some j)) l[i] = false from decide_eq_false h3]; rfl))
        rwa [wrap_succ hlt hl] at this
theorem specPath_ev {l : List SC} (hl : l.length ≤ 1048576) (a0 : Int) {x : SC} {m : Int} {out o : List SP} (h : PathR l x m out o) : ∀ (hx : x ∈ l), EvP (fun k => spec_l23Path.l0 k m out a0 l x.f0 x.f1 x.f2 x.f3 x.f4 x.f5 x.f6) (fun r => r = o) := by
  induction h with
  | @done x m out hlo hb =>
    intro hx
    refine EvP.step ?_
    simp only [spec_l23Path.l0]
    refine specBest hl a0 x m out _ (fun q hq hbq => ?_) l.length 0 none (by omega) (fun j e => by cases e) rfl
    rw [hb] at hbq
    cases q with
    | some j => cases hbq
    | none =>
      refine EvP.neg (by show ¬ (-1 : Int) ≥ 0; omega) (EvP.step ?_)
      simp only [spec_l23Path.j3]
      unfold putM
      refine EvP.ite (fun h1 => ?_) (fun h1 => EvP.pos (by show (-1 : Int) < 0; omega) (EvP.now (by rw [if_neg h1])))
      refine EvP.pos hlo ?_
      rw [if_pos h1]
      exact EvP.bind (P := fun y => y = out ++ [⟨x.f0, x.f4, m⟩]) (EvP.now rfl) (fun y e => EvP.pos (by show (-1 : Int) < 0; omega) (EvP.now e))
  | @step x m out b o1 o hlo hb h1 h2 ih1 ih2 =>
    intro hx
    have hbm : b ∈ l := by
      have := (best_of hb).1
      unfold kidsM at this
      exact (List.mem_filter.1 this).1
    have e1 := ih1 hbm
    have e2 := ih2 hx
    refine EvP.step ?_
    simp only [spec_l23Path.l0]
    refine specBest hl a0 x m out _ (fun q hq hbq => ?_) l.length 0 none (by omega) (fun j e => by cases e) rfl
    rw [hb] at hbq
    cases q with
    | none => cases hbq
    | some j =>
      have hj := hq j rfl
      have ej : rd_T41 l (j : Int) = b := (Option.some.inj hbq).symm
      refine EvP.pos (by show (j : Int) ≥ 0; omega) (EvP.step ?_)
      have em : endI l m (some j) = endM b m := by show endM (rdK l (j : Int)) m = _; rw [show rdK l (j : Int) = b from ej]
      rw [em]
      have rest : EvP (fun k => (spec_l23Path.f k a0 l (idxI (some j)) (endM b m) (putM x.f0 (endM b m) m out)).bind fun t => if 0 ≤ idxI (some j) then (if idxI (some j) < (l.length : Int) then spec_l23Path.l0 k ((rd_T41 l (idxI (some j))).f4) t a0 l x.f0 x.f1 x.f2 x.f3 x.f4 x.f5 x.f6 else none) else none) (fun r => r = o) := by
        refine EvP.bind (P := fun r => r = o1) ?_ (fun t e => ?_)
        · refine EvP.step ?_
          show EvP (fun k => spec_l23Path.f (k + 1) a0 l (j : Int) (endM b m) (putM x.f0 (endM b m) m out)) _
          simp only [spec_l23Path.f, ej]
          exact EvP.pos (by omega) (EvP.pos (by omega) e1)
        · subst e
          show EvP (fun k => if 0 ≤ (j : Int) then (if (j : Int) < (l.length : Int) then spec_l23Path.l0 k ((rd_T41 l (j : Int)).f4) t a0 l x.f0 x.f1 x.f2 x.f3 x.f4 x.f5 x.f6 else none) else none) _
          rw [ej]
          exact EvP.pos (by omega) (EvP.pos (by omega) e2)
      simp only [spec_l23Path.j3]
      unfold putM at rest
      refine EvP.ite (fun h3 => ?_) (fun h3 => ?_)
      · rw [if_pos h3] at rest
        refine EvP.pos hlo ?_
        refine EvP.bind (P := fun y => y = out ++ [⟨x.f0, endM b m, m⟩]) (EvP.now rfl) (fun y e => ?_)
        subst e
        exact EvP.neg (by show ¬ (j : Int) < 0; omega) rest
      · rw [if_neg h3] at rest
        exact EvP.neg (by show ¬ (j : Int) < 0; omega) rest
end Go.Proofs.Ytcfijablfjbimaa.PathPlain
