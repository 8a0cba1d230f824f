/- The reference's SelfTimes in plain words: it comes to the same count. -/
import Derived.Test.YtalhphclogbpnaaSpanPlain
import Derived.Test.YtalhphclogbpnaaHSelf
import Derived.Test.YtalhphclogbpnaaHSpecTrace
import Derived.Test.YtalhphclogbpnaaPFnCriticalx6
namespace Go.Proofs.Ytalhphclogbpnaa.SelfPlain
open Go.RowKit Go.Proofs.Ytalhphclogbpnaa.PFnCritical Go.Proofs.YtalhphclogbpnaaW.PrintWords Go.Proofs.YtalhphclogbpnaaW.PrintLast Go.Proofs.Ytalhphclogbpnaa.Evs
set_option linter.unusedVariables false
abbrev rdK (l : List SC) (i : Int) : SC := rd_T34 l i
theorem rdK_get (l : List SC) (i : Nat) (h : i < l.length) : rdK l (i : Int) = l[i] := getD_get _ l i h
abbrev rdS (l : List SS) (i : Int) : SS := rd_T55 l i
theorem rdS_get (l : List SS) (i : Nat) (h : i < l.length) : rdS l (i : Int) = l[i] := getD_get _ l i h
/-- What is asked of the calls: a kid stands behind its parent, and begins no earlier. -/
def Kin (l : List SC) : Prop := ∀ (i : Nat) (hi : i < l.length) (j : Nat) (hj : j < l.length), l[j].f1 = l[i].f0 → i < j ∧ l[i].f4 ≤ l[j].f4
/-! ### a good trace's calls -/
theorem parFrom_some {l : List SC} {p f : Int} (h : parFrom l p = some f) : ∃ (j : Nat) (hj : j < l.length), l[j].f0 = p ∧ l[j].f4 = f := by
  induction l with
  | nil => cases h
  | cons x xs ih =>
    unfold parFrom at h
    split at h
    · rename_i hx
      exact ⟨0, by simp, hx, Option.some.inj h⟩
    · obtain ⟨j, hj, h1, h2⟩ := ih h
      exact ⟨j + 1, by simpa using hj, h1, h2⟩
structure GoodC (l : List SC) : Prop where
  kin : Kin l
  pos : ∀ x ∈ l, 0 ≤ x.f4
  top : ∀ x ∈ l, x.f4 ≤ x.f5 ∧ x.f5 ≤ 1000000000000
  uniq : ∀ (i j : Nat) (hi : i < l.length) (hj : j < l.length), l[i].f0 = l[j].f0 → i = j
theorem good_of {id : Int} {l : List SC} (h : goodTraceB id l = true) : GoodC l ∧ 0 < l.length ∧ l.length ≤ 100 := by
  unfold goodTraceB at h
  simp only [Bool.and_eq_true, decide_eq_true_iff] at h
  obtain ⟨⟨⟨_, h1⟩, h2⟩, h3⟩ := h
  have ok : ∀ (i : Nat) (hi : i < l.length), badB l i = false ∧ kidB l i = true := fun i hi => by
    have := List.all_eq_true.1 h3 i (by rw [List.mem_range'_1]; omega)
    unfold okB at this
    simpa using this
  have b1 : ∀ (i : Nat) (hi : i < l.length), 1 ≤ l[i].f0 ∧ 0 ≤ l[i].f4 ∧ l[i].f4 ≤ l[i].f5 ∧ l[i].f5 ≤ 1000000000000 ∧ (0 < i → (rdK l ((i : Int) - 1)).f0 < l[i].f0) := fun i hi => by
    have hb := (ok i hi).1
    unfold badB at hb
    have hr : rd_T34 l (i : Int) = l[i] := rdK_get l i hi
    rw [hr] at hb
    simp only [Bool.or_eq_false_iff, Bool.and_eq_false_iff, decide_eq_false_iff_not, Bool.not_eq_false'] at hb
    obtain ⟨⟨⟨⟨⟨⟨c1, c2⟩, _⟩, _⟩, c3⟩, c4⟩, c5⟩ := hb
    unfold timeB at c3 c4
    simp only [Bool.and_eq_true, decide_eq_true_iff] at c3 c4
    refine ⟨by omega, c3.1, by omega, c4.2, fun h0 => ?_⟩
    rcases c2 with c2 | c2
    · omega
    · exact Int.not_le.1 c2
  have rise : ∀ (d i : Nat) (h : i + d + 1 < l.length), l[i].f0 < l[i + d + 1].f0 := by
    intro d
    induction d with
    | zero =>
      intro i h
      have := (b1 (i + 1) h).2.2.2.2 (by omega)
      rw [show (((i + 1 : Nat) : Int) - 1) = (i : Int) by omega, rdK_get l i (by omega)] at this
      exact this
    | succ d ih =>
      intro i h
      have h1 := ih i (by omega)
      have := (b1 (i + (d + 1) + 1) h).2.2.2.2 (by omega)
      rw [show (((i + (d + 1) + 1 : Nat) : Int) - 1) = ((i + d + 1 : Nat) : Int) by omega, rdK_get l (i + d + 1) (by omega)] at this
      omega
  have uniq : ∀ (i j : Nat) (hi : i < l.length) (hj : j < l.length), l[i].f0 = l[j].f0 → i = j := fun i j hi hj he => by
    rcases Nat.lt_trichotomy i j with h | h | h
    · have := rise (j - i - 1) i (by omega)
      simp only [show i + (j - i - 1) + 1 = j by omega] at this
      omega
    · exact h
    · have := rise (i - j - 1) j (by omega)
      simp only [show j + (i - j - 1) + 1 = i by omega] at this
      omega
  refine ⟨⟨fun i hi j hj he => ?_, fun x hx => ?_, fun x hx => ?_, uniq⟩, by omega, h2⟩
  · have hkb := (ok j hj).2
    unfold kidB at hkb
    have hr : rd_T34 l (j : Int) = l[j] := rdK_get l j hj
    rw [hr] at hkb
    by_cases hj0 : j = 0
    · rw [if_pos hj0] at hkb
      have := of_decide_eq_true hkb
      have := (b1 i hi).1
      omega
    · rw [if_neg hj0] at hkb
      cases hp : parFrom (l.take j) l[j].f1 with
      | none => rw [hp] at hkb; cases hkb
      | some f =>
        rw [hp] at hkb
        obtain ⟨p, hpl, h4, h5⟩ := parFrom_some hp
        rw [List.length_take] at hpl
        rw [List.getElem_take] at h4 h5
        have e := uniq i p hi (by omega) (by rw [h4]; exact he.symm)
        subst e
        have := of_decide_eq_true hkb
        exact ⟨by omega, by omega⟩
  · obtain ⟨i, hi, rfl⟩ := List.mem_iff_getElem.1 hx
    exact (b1 i hi).2.1
  · obtain ⟨i, hi, rfl⟩ := List.mem_iff_getElem.1 hx
    exact ⟨(b1 i hi).2.2.1, (b1 i hi).2.2.2.1⟩
/-! ### the reference's loops -/
abbrev L0 (k : Nat) (out : List Int) (l : List SC) (i : Nat) (id : Int) := spec_SelfTimes.l0 k out l (l.length : Int) (i : Int) id l
abbrev L3 (k : Nat) (out : List Int) (n : Int) (l : List SC) (i : Nat) (left : List SS) (m : Nat) (id : Int) := spec_SelfTimes.l3 k out n l (l.length : Int) (i : Int) left (left.length : Int) (m : Int) id l
abbrev L1 (k : Nat) (out : List Int) (left : List SS) (l : List SC) (i j : Nat) (id : Int) (c : SC) := spec_SelfTimes.l1 k out left l (l.length : Int) (i : Int) l (l.length : Int) (j : Int) id l c.f0 c.f1 c.f2 c.f3 c.f4 c.f5 c.f6
abbrev L2 (k : Nat) (out : List Int) (acc : List SS) (l : List SC) (i j : Nat) (old : List SS) (m : Nat) (id : Int) (c y : SC) := spec_SelfTimes.l2 k out acc l (l.length : Int) (i : Int) l (l.length : Int) (j : Int) old (old.length : Int) (m : Int) id l c.f0 c.f1 c.f2 c.f3 c.f4 c.f5 c.f6 y.f0 y.f1 y.f2 y.f3 y.f4 y.f5 y.f6
theorem cutL_drop (y : SC) (old : List SS) (m : Nat) (h : m < old.length) : cutL y (old.drop m) = cut1 y old[m] ++ cutL y (old.drop (m + 1)) := by
  rw [List.drop_eq_getElem_cons h]; rfl
theorem l3_ev {out : List Int} {l : List SC} {i : Nat} {id : Int} {R : List Int → Prop} (left : List SS) (lo hi : Int) (hr : Rise lo hi left) (h0 : 0 ≤ lo) (h1 : hi ≤ 1000000000000) (hlen : left.length ≤ 1000) (hout : out.length ≤ 1000) (hi2 : i < 1048576)
    (hk : EvP (fun k => L0 k (out ++ [lens left]) l (i + 1) id) R) : ∀ (d m : Nat), left.length - m ≤ d → m ≤ left.length → ∀ n : Int, 0 ≤ n → n + lens (left.drop m) = lens left → EvP (fun k => L3 k out n l i left m id) R
  | d, m, hd, hm, n, hn, he => by
    have hb := lens_le left lo hi hr
    by_cases hlt : m < left.length
    · obtain ⟨d, rfl⟩ : ∃ e, d = e + 1 := ⟨d - 1, by omega⟩
      have hs := hr.bounds left[m] (List.getElem_mem hlt)
      rw [List.drop_eq_getElem_cons hlt, lens] at he
      have hw : wrap64 ((m : Int) + 1) = ((m + 1 : Nat) : Int) := wrap_succ hlt (by omega)
      have hpos : 0 ≤ lens (left.drop (m + 1)) := by
        have : ∀ (q : List SS), (∀ s ∈ q, s.f0 ≤ s.f1) → 0 ≤ lens q := fun q => by
          induction q with
          | nil => intro _; exact Int.le_refl 0
          | cons s r ih => intro h; have h1 := h s (List.mem_cons_self ..); have h2 := ih (fun t ht => h t (List.mem_cons_of_mem _ ht)); simp only [lens]; omega
        exact this _ (fun s hs => (hr.bounds s (List.mem_of_mem_drop hs)).2.1)
      generalize hT : lens (left.drop (m + 1)) = T at he hpos
      generalize hA : lens left = A at he hb
      have HT := Aside0.mk hT
      have HA := Aside0.mk hA
      have f1 : (m : Int) < (left.length : Int) := Int.ofNat_lt.2 hlt
      have f2 : (0 : Int) ≤ (m : Int) := Int.natCast_nonneg m
      have hsp : rd_T55 left (m : Int) = left[m] := rdS_get left m hlt
      obtain ⟨s, hs1⟩ : ∃ s, s = left[m] := ⟨_, rfl⟩
      rw [← hs1] at hs he hsp
      clear hT hA hs1
      have next : ∀ n' : Int, 0 ≤ n' → n' + T = A → EvP (fun k => L3 k out n' l i left (m + 1) id) R := fun n' q1 q2 => l3_ev left lo hi hr h0 h1 hlen hout hi2 hk d (m + 1) (by omega) hlt n' q1 (by rw [HT.out, HA.out]; exact q2)
      refine EvP.step ?_
      simp only [spec_SelfTimes.l3, hw]
      rw [hsp]
      refine EvP.pos f1 (EvP.pos f2 (EvP.pos f1 ?_))
      clear hsp hr hk f1 f2 hw
      by_cases hgt : s.f1 > s.f0
      · refine EvP.pos hgt ?_
        have e2 : wrap64 (n + wrap64 (s.f1 - s.f0)) = n + (s.f1 - s.f0) := by rw [w64 (x := s.f1 - s.f0) (by omega) (by omega), w64 (by omega) (by omega)]
        rw [e2]
        exact next _ (by omega) (by omega)
      · refine EvP.neg hgt ?_
        exact next n hn (by omega)
    · have e : m = left.length := by omega
      subst e
      rw [List.drop_length, lens, Int.add_zero] at he
      refine EvP.step ?_
      simp only [spec_SelfTimes.l3]
      refine EvP.neg (by omega) (EvP.pos (by omega) ?_)
      rw [he, wrap_succ hi2 (by omega)]
      exact hk
theorem l2_ev {out : List Int} {l : List SC} {i j : Nat} {id : Int} {c y : SC} {R : List Int → Prop} (hj : j < 1048576) (old : List SS) (hlen : old.length ≤ 1000) :
    ∀ (d m : Nat), old.length - m ≤ d → m ≤ old.length → ∀ acc : List SS, acc.length ≤ 2 * m → EvP (fun k => L1 k out (acc ++ cutL y (old.drop m)) l i (j + 1) id c) R → EvP (fun k => L2 k out acc l i j old m id c y) R
  | d, m, hd, hm, acc, hacc, hk => by
    by_cases hlt : m < old.length
    · obtain ⟨d, rfl⟩ : ∃ e, d = e + 1 := ⟨d - 1, by omega⟩
      rw [cutL_drop y old m hlt, ← List.append_assoc] at hk
      have hw : wrap64 ((m : Int) + 1) = ((m + 1 : Nat) : Int) := wrap_succ hlt (by omega)
      refine EvP.step ?_
      simp only [spec_SelfTimes.l2, hw]
      rw [show rd_T55 old (m : Int) = old[m] from rdS_get old m hlt]
      refine EvP.pos (by omega) (EvP.pos (by omega) (EvP.pos (by omega) ?_))
      generalize old[m] = s at hk ⊢
      have less : ∀ a b : Int, spec_l23Less.f a b = some (if a < b then a else b) := fun a b => by unfold spec_l23Less.f; split <;> rfl
      have more : ∀ a b : Int, spec_l23More.f a b = some (if a > b then a else b) := fun a b => by unfold spec_l23More.f; split <;> rfl
      by_cases hA : y.f4 > s.f0
      · refine EvP.pos hA ?_
        rw [less]
        refine EvP.bind (EvP.now rfl) (fun t e => ?_)
        subst e
        refine EvP.pos (by omega) (EvP.bind (EvP.now rfl) (fun t e => ?_))
        subst e
        by_cases hB : y.f5 < s.f1
        · refine EvP.pos hB ?_
          rw [more]
          refine EvP.bind (EvP.now rfl) (fun t e => ?_)
          subst e
          refine EvP.pos (by rw [List.length_append, List.length_singleton]; omega) ?_
          refine l2_ev hj old hlen d (m + 1) (by omega) hlt _ (by simp only [List.length_append, List.length_singleton]; omega) ?_
          unfold cut1 cutA cutB at hk
          rw [if_pos hA, if_pos hB, ← List.append_assoc] at hk
          exact hk
        · refine EvP.neg hB ?_
          refine l2_ev hj old hlen d (m + 1) (by omega) hlt _ (by simp only [List.length_append, List.length_singleton]; omega) ?_
          unfold cut1 cutA cutB at hk
          rw [if_pos hA, if_neg hB, List.append_nil] at hk
          exact hk
      · refine EvP.neg hA ?_
        by_cases hB : y.f5 < s.f1
        · refine EvP.pos hB ?_
          rw [more]
          refine EvP.bind (EvP.now rfl) (fun t e => ?_)
          subst e
          refine EvP.pos (by omega) ?_
          refine l2_ev hj old hlen d (m + 1) (by omega) hlt _ (by simp only [List.length_append, List.length_singleton]; omega) ?_
          unfold cut1 cutA cutB at hk
          rw [if_neg hA, if_pos hB, List.nil_append] at hk
          exact hk
        · refine EvP.neg hB ?_
          refine l2_ev hj old hlen d (m + 1) (by omega) hlt _ (by omega) ?_
          unfold cut1 cutA cutB at hk
          rw [if_neg hA, if_neg hB, List.nil_append, List.append_nil] at hk
          exact hk
    · have e : m = old.length := by omega
      subst e
      rw [List.drop_length, cutL, List.append_nil] at hk
      refine EvP.step ?_
      simp only [spec_SelfTimes.l2]
      refine EvP.neg (by omega) ?_
      rw [wrap_succ hj (by omega)]
      exact hk
theorem kids_drop (l : List SC) (n : Int) (j : Nat) (h : j < l.length) : kidsM (l.drop j) n = if l[j].f1 = n then l[j] :: kidsM (l.drop (j + 1)) n else kidsM (l.drop (j + 1)) n := by
  rw [List.drop_eq_getElem_cons h]
  unfold kidsM
  by_cases hn : l[j].f1 = n
  · rw [if_pos hn, List.filter_cons_of_pos (by simpa using hn)]
  · rw [if_neg hn, List.filter_cons_of_neg (by simpa using hn)]
theorem l1_ev {out : List Int} {l : List SC} {i : Nat} {id : Int} {c : SC} {R : List Int → Prop} (hl : l.length ≤ 100) (htop : ∀ x ∈ l, x.f4 ≤ x.f5) (lo hi : Int) (fin : List SS) (hk : EvP (fun k => L3 k out 0 l i fin 0 id) R) :
    ∀ (d j : Nat), l.length - j ≤ d → j ≤ l.length → ∀ left : List SS, Rise lo hi left → left.length ≤ 1 + j → cutAll (kidsM (l.drop j) c.f0) left = fin → EvP (fun k => L1 k out left l i j id c) R
  | d, j, hd, hj, left, hr, hlen, hf => by
    by_cases hlt : j < l.length
    · obtain ⟨d, rfl⟩ : ∃ e, d = e + 1 := ⟨d - 1, by omega⟩
      have hw : wrap64 ((j : Int) + 1) = ((j + 1 : Nat) : Int) := wrap_succ hlt (by omega)
      rw [kids_drop l c.f0 j hlt] at hf
      have hy := htop l[j] (List.getElem_mem hlt)
      refine EvP.step ?_
      simp only [spec_SelfTimes.l1, hw]
      rw [show rd_T34 l (j : Int) = l[j] from rdK_get l j hlt]
      refine EvP.pos (by omega) (EvP.pos (by omega) (EvP.pos (by omega) ?_))
      by_cases hp : l[j].f1 = c.f0
      · refine EvP.pos hp ?_
        rw [if_pos hp] at hf
        refine l2_ev (by omega) left (by omega) left.length 0 (by omega) (Nat.zero_le _) [] (Nat.zero_le _) ?_
        rw [List.drop_zero, List.nil_append]
        exact l1_ev hl htop lo hi fin hk d (j + 1) (by omega) hlt _ (cut_rise _ hy _ _ _ hr) (by have := cut_len _ hy _ _ _ hr; omega) hf
      · refine EvP.neg hp ?_
        rw [if_neg hp] at hf
        exact l1_ev hl htop lo hi fin hk d (j + 1) (by omega) hlt left hr (by omega) hf
    · have e : j = l.length := by omega
      subst e
      rw [List.drop_length] at hf
      have hf' : left = fin := hf
      subst hf'
      refine EvP.step ?_
      simp only [spec_SelfTimes.l1]
      exact EvP.neg (by omega) hk
theorem l0_ev {l : List SC} {id : Int} (hl : l.length ≤ 100) (htop : ∀ x ∈ l, 0 ≤ x.f4 ∧ x.f4 ≤ x.f5 ∧ x.f5 ≤ 1000000000000) :
    ∀ (d i : Nat), l.length - i ≤ d → i ≤ l.length → ∀ out : List Int, out = (l.take i).map (fun x => selfM x (kidsM l x.f0)) → EvP (fun k => L0 k out l i id) (fun r => r = l.map fun x => selfM x (kidsM l x.f0))
  | d, i, hd, hi, out, ho => by
    by_cases hlt : i < l.length
    · obtain ⟨d, rfl⟩ : ∃ e, d = e + 1 := ⟨d - 1, by omega⟩
      have hx := htop l[i] (List.getElem_mem hlt)
      have hkid : ∀ k ∈ kidsM l l[i].f0, k.f4 ≤ k.f5 := fun k hk => (htop k (List.mem_filter.1 hk).1).2.1
      have hr : Rise l[i].f4 l[i].f5 [(⟨l[i].f4, l[i].f5⟩ : SS)] := ⟨Int.le_refl _, hx.2.1, Int.le_refl l[i].f5⟩
      have hfin := cutAll_rise (kidsM l l[i].f0) _ _ _ hkid hr
      have hkl : (kidsM l l[i].f0).length ≤ 100 := Nat.le_trans (List.length_filter_le _ _) hl
      have hol : out.length ≤ 100 := by rw [ho, List.length_map, List.length_take]; omega
      refine EvP.step ?_
      simp only [spec_SelfTimes.l0]
      rw [show rd_T34 l (i : Int) = l[i] from rdK_get l i hlt]
      refine EvP.pos (by omega) (EvP.pos (by omega) (EvP.pos (by omega) ?_))
      refine l1_ev hl (fun x hx => (htop x hx).2.1) l[i].f4 l[i].f5 (cutAll (kidsM l l[i].f0) [⟨l[i].f4, l[i].f5⟩]) ?_ l.length 0 (by omega) (Nat.zero_le _) _ hr (by simp) (by rw [List.drop_zero])
      refine l3_ev _ _ _ hfin.1 hx.1 hx.2.2 (by have := hfin.2; simp only [List.length_singleton] at this; omega) (by omega) (by omega) ?_ _ 0 (Nat.le_refl _) (Nat.zero_le _) 0 (Int.le_refl _) (by rw [List.drop_zero, Int.zero_add])
      refine l0_ev hl htop d (i + 1) (by omega) hlt _ ?_
      rw [lens_self l[i] _ hx.2.1 hkid, ho, List.take_succ_eq_append_getElem hlt, List.map_append]
      rfl
    · have e : i = l.length := by omega
      subst e
      rw [List.take_length] at ho
      refine EvP.step ?_
      simp only [spec_SelfTimes.l0]
      exact EvP.neg (by omega) (EvP.now ho)
/-- Both sides come to the same times. -/
theorem both (a0 : Int) (l : List SC) (hw : l.all wfCall = true) : ∃ o : List Int, o.length ≤ 100 ∧ EvP (fun k => spec_SelfTimes.f k a0 l) (fun r => r = o) ∧ EvP (fun k => impl_SelfTimes.f k a0 l) (fun r => r = o) := by
  have hi : impl_GoodTrace.f a0 l = some (goodTraceB a0 l) := by unfold impl_GoodTrace.f; rw [if_pos hw]
  cases hg : goodTraceB a0 l with
  | false =>
    refine ⟨[], by simp, ?_, ?_⟩
    · unfold spec_SelfTimes.f spec_GoodTrace.f
      rw [hg]
      exact EvP.bind (EvP.now rfl) (fun t e => by subst e; exact EvP.neg (by decide) (EvP.now rfl))
    · unfold impl_SelfTimes.f
      rw [hi, hg]
      exact EvP.bind (EvP.now rfl) (fun t e => by subst e; exact EvP.neg (by decide) (EvP.now rfl))
  | true =>
    obtain ⟨hgc, h0, h1⟩ := good_of hg
    have htop : ∀ x ∈ l, 0 ≤ x.f4 ∧ x.f4 ≤ x.f5 ∧ x.f5 ≤ 1000000000000 := fun x hx => ⟨hgc.pos x hx, hgc.top x hx⟩
    have hall : l.all okCall = true := by
      rw [List.all_eq_true]
      intro x hx
      have := htop x hx
      unfold okCall
      simp [this.1, this.2.1, this.2.2]
    refine ⟨l.map fun x => selfM x (kidsM l x.f0), by rw [List.length_map]; exact h1, ?_, ?_⟩
    · unfold spec_SelfTimes.f spec_GoodTrace.f
      rw [hg]
      refine EvP.bind (EvP.now rfl) (fun t e => ?_)
      subst e
      exact EvP.pos rfl (l0_ev h1 htop l.length 0 (by omega) (Nat.zero_le _) [] rfl)
    · unfold impl_SelfTimes.f
      rw [hi, hg]
      refine EvP.bind (EvP.now rfl) (fun t e => ?_)
      subst e
      exact EvP.pos rfl (EvP.pos ⟨h1, hall⟩ (EvP.now rfl))
end Go.Proofs.Ytalhphclogbpnaa.SelfPlain
