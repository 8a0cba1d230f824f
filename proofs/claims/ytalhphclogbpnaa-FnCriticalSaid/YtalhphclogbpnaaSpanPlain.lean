/- Parts of one claim's proof, put together (merge.py). -/
import Derived.Test.YtalhphclogbpnaaHPathPut
/- What of a call none of its kids has: counted in plain words; the sweep over the kids in order comes to it. -/
namespace Go.Proofs.Ytalhphclogbpnaa.PFnCritical
set_option linter.unusedVariables false
/-- How many of a, a + 1, .. (n of them) have p. -/
def cntN (p : Int → Bool) (a : Int) : Nat → Int
  | 0 => 0
  | n + 1 => cntN p a n + (if p (a + n) then 1 else 0)
def cnt (p : Int → Bool) (a b : Int) : Int := cntN p a (b - a).toNat
theorem cntN_congr {p q : Int → Bool} (a : Int) : ∀ n : Nat, (∀ x, a ≤ x → x < a + n → p x = q x) → cntN p a n = cntN q a n
  | 0, _ => rfl
  | n + 1, h => by rw [cntN, cntN, cntN_congr a n (fun x h1 h2 => h x h1 (by omega)), h (a + n) (by omega) (by omega)]
theorem cntN_add (p : Int → Bool) (a : Int) (m : Nat) : ∀ n : Nat, cntN p a (m + n) = cntN p a m + cntN p (a + m) n
  | 0 => by simp [cntN]
  | n + 1 => by
    rw [← Nat.add_assoc, cntN, cntN, cntN_add p a m n]
    have e : a + ((m + n : Nat) : Int) = a + (m : Int) + (n : Int) := by omega
    rw [e]
    omega
theorem cntN_all {p : Int → Bool} (a : Int) : ∀ n : Nat, (∀ x, a ≤ x → x < a + n → p x = true) → cntN p a n = n
  | 0, _ => rfl
  | n + 1, h => by rw [cntN, cntN_all a n (fun x h1 h2 => h x h1 (by omega)), h (a + n) (by omega) (by omega)]; simp
theorem cntN_none {p : Int → Bool} (a : Int) : ∀ n : Nat, (∀ x, a ≤ x → x < a + n → p x = false) → cntN p a n = 0
  | 0, _ => rfl
  | n + 1, h => by rw [cntN, cntN_none a n (fun x h1 h2 => h x h1 (by omega)), h (a + n) (by omega) (by omega)]; simp
theorem cnt_congr {p q : Int → Bool} {a b : Int} (h : ∀ x, a ≤ x → x < b → p x = q x) : cnt p a b = cnt q a b := by
  unfold cnt
  by_cases hab : a ≤ b
  · exact cntN_congr a _ (fun x h1 h2 => h x h1 (by omega))
  · have e : (b - a).toNat = 0 := by omega
    rw [e]; rfl
theorem cnt_split (p : Int → Bool) {a b c : Int} (h1 : a ≤ b) (h2 : b ≤ c) : cnt p a c = cnt p a b + cnt p b c := by
  unfold cnt
  have e : (c - a).toNat = (b - a).toNat + (c - b).toNat := by omega
  have e2 : a + (((b - a).toNat : Nat) : Int) = b := by omega
  rw [e, cntN_add, e2]
theorem cnt_all {p : Int → Bool} {a b : Int} (hab : a ≤ b) (h : ∀ x, a ≤ x → x < b → p x = true) : cnt p a b = b - a := by
  unfold cnt
  rw [cntN_all a _ (fun x h1 h2 => h x h1 (by omega))]
  omega
theorem cnt_none {p : Int → Bool} {a b : Int} (h : ∀ x, a ≤ x → x < b → p x = false) : cnt p a b = 0 := by
  unfold cnt
  exact cntN_none a _ (fun x h1 h2 => h x h1 (by omega))
theorem cnt_empty (p : Int → Bool) {a b : Int} (h : b ≤ a) : cnt p a b = 0 := by
  unfold cnt
  have e : (b - a).toNat = 0 := by omega
  rw [e]; rfl
/-- A moment lies in none of the calls. -/
def out1 (k : SC) (p : Int) : Bool := !(decide (k.f4 ≤ p) && decide (p < k.f5))
def freeB (ks : List SC) (p : Int) : Bool := ks.all fun k => out1 k p
def selfM (x : SC) (ks : List SC) : Int := cnt (freeB ks) x.f4 x.f5
theorem freeB_perm {a b : List SC} (h : a.Perm b) (p : Int) : freeB a p = freeB b p := by
  unfold freeB
  rw [Bool.eq_iff_iff, List.all_eq_true, List.all_eq_true]
  exact ⟨fun q k hk => q k (h.mem_iff.2 hk), fun q k hk => q k (h.mem_iff.1 hk)⟩
theorem selfM_perm (x : SC) {a b : List SC} (h : a.Perm b) : selfM x a = selfM x b := cnt_congr fun p _ _ => freeB_perm h p
def minI (a b : Int) : Int := if b < a then b else a
def maxI (a b : Int) : Int := if a < b then b else a
theorem minI_eq (a b : Int) : minI a b = min a b := by unfold minI; split <;> omega
theorem maxI_eq (a b : Int) : maxI a b = max a b := by unfold maxI; split <;> omega
def sweepM (t : Int) : List SC → Int → Int → Int × Int
  | [], n, p => (n, p)
  | k :: ks, n, p => sweepM t ks (n + maxI 0 (minI k.f4 t - p)) (maxI p (minI k.f5 t))
theorem free_snoc (ks : List SC) (k : SC) (p : Int) : freeB (ks ++ [k]) p = (freeB ks p && out1 k p) := by unfold freeB; rw [List.all_append]; simp
theorem out1_false {k : SC} {p : Int} (h : k.f4 ≤ p ∧ p < k.f5) : out1 k p = false := by unfold out1; simp [h.1, h.2]
theorem out1_true {k : SC} {p : Int} (h : p < k.f4 ∨ k.f5 ≤ p) : out1 k p = true := by
  unfold out1
  rcases h with h | h
  · have : decide (k.f4 ≤ p) = false := decide_eq_false (by omega)
    simp [this]
  · have : decide (p < k.f5) = false := decide_eq_false (by omega)
    simp [this]
theorem free_of {ks : List SC} {p : Int} (h : ∀ k ∈ ks, k.f5 ≤ p ∨ p < k.f4) : freeB ks p = true := by
  unfold freeB
  rw [List.all_eq_true]
  exact fun k hk => out1_true ((h k hk).symm)
theorem free_false {ks : List SC} {k : SC} {p : Int} (hk : k ∈ ks) (h : k.f4 ≤ p ∧ p < k.f5) : freeB ks p = false := by
  cases e : freeB ks p with
  | false => rfl
  | true =>
    unfold freeB at e
    have := List.all_eq_true.1 e k hk
    rw [out1_false h] at this
    cases this
/-- The sweep, told of what lies behind it. -/
theorem sweep_inv (s t : Int) (hst : s ≤ t) : ∀ (ks P : List SC) (n p : Int), (∀ k ∈ ks, k.f4 ≤ k.f5) → (P ++ ks).Pairwise (fun x y => x.f4 ≤ y.f4) → s ≤ p → p ≤ t → (∀ k ∈ P, min k.f5 t ≤ p) → (p = s ∨ ∃ k ∈ P, p ≤ k.f5) → n = cnt (freeB P) s p →
    (sweepM t ks n p).1 + t - (sweepM t ks n p).2 = cnt (freeB (P ++ ks)) s t
  | [], P, n, p, _, _, h1, h2, h3, _, h5 => by
    show n + t - p = _
    rw [List.append_nil, cnt_split (freeB P) h1 h2, ← h5, cnt_all h2 (fun x hx hxt => free_of fun k hk => by have := h3 k hk; omega)]
    omega
  | k :: ks, P, n, p, hk, hs, h1, h2, h3, h4, h5 => by
    have hk0 := hk k (List.mem_cons_self ..)
    have e : P ++ k :: ks = (P ++ [k]) ++ ks := by simp
    have hle : ∀ q ∈ P, q.f4 ≤ k.f4 := fun q hq => by
      rw [List.pairwise_append] at hs
      exact hs.2.2 q hq k (List.mem_cons_self ..)
    rw [sweepM, e, minI_eq, minI_eq, maxI_eq, maxI_eq]
    refine sweep_inv s t hst ks (P ++ [k]) _ _ (fun q hq => hk q (List.mem_cons_of_mem _ hq)) (by rw [← e]; exact hs) (by omega) (by omega) ?_ ?_ ?_
    · intro q hq
      rcases List.mem_append.1 hq with hq | hq
      · have := h3 q hq; omega
      · rw [List.mem_singleton] at hq; subst hq; omega
    · by_cases hc : p < min k.f5 t
      · exact .inr ⟨k, by simp, by omega⟩
      · rcases h4 with h4 | ⟨q, hq, h4⟩
        · exact .inl (by omega)
        · exact .inr ⟨q, by simp [hq], by omega⟩
    · have c1 : cnt (freeB (P ++ [k])) s p = cnt (freeB P) s p := cnt_congr fun x hx hxp => by
        rw [free_snoc]
        by_cases hin : k.f4 ≤ x ∧ x < k.f5
        · rcases h4 with h4 | ⟨q, hq, h4⟩
          · omega
          · rw [free_false hq ⟨by have := hle q hq; omega, by omega⟩]; rfl
        · rw [out1_true (by omega), Bool.and_true]
      have hP : ∀ x, p ≤ x → x < t → freeB P x = true := fun x hx hxt => free_of fun q hq => by have := h3 q hq; omega
      rw [cnt_split _ h1 (show p ≤ max p (min k.f5 t) by omega), c1, ← h5]
      congr 1
      by_cases hc : p < min k.f5 t
      · have em : max p (min k.f5 t) = min k.f5 t := by omega
        rw [em]
        by_cases hd : p < min k.f4 t
        · rw [cnt_split _ (show p ≤ min k.f4 t by omega) (show min k.f4 t ≤ min k.f5 t by omega)]
          rw [cnt_all (by omega) (fun x hx hx2 => by rw [free_snoc, hP x hx (by omega), out1_true (.inl (by omega))]; rfl), cnt_none (fun x hx hx2 => by rw [free_snoc, out1_false (by omega), Bool.and_false])]
          omega
        · rw [cnt_none (fun x hx hx2 => by rw [free_snoc, out1_false (by omega), Bool.and_false])]
          omega
      · rw [cnt_empty _ (by omega)]
        omega
theorem sweep_self (x : SC) (ks ks' : List SC) (hx : x.f4 ≤ x.f5) (hk : ∀ k ∈ ks, k.f4 ≤ k.f5) (hp : ks'.Perm ks) (hs : ks'.Pairwise (fun x y => x.f4 ≤ y.f4)) :
    (sweepM x.f5 ks' 0 x.f4).1 + x.f5 - (sweepM x.f5 ks' 0 x.f4).2 = selfM x ks := by
  rw [← selfM_perm x hp]
  have := sweep_inv x.f4 x.f5 hx ks' [] 0 x.f4 (fun k h => hk k (hp.mem_iff.1 h)) (by simpa using hs) (Int.le_refl _) hx (fun k h => by cases h) (.inl rfl) (cnt_empty _ (Int.le_refl _)).symm
  unfold selfM
  simpa using this
end Go.Proofs.Ytalhphclogbpnaa.PFnCritical
/- Spans with calls cut out of them: what is left counts the moments in none of the calls. Plain lists. -/
namespace Go.Proofs.Ytalhphclogbpnaa.PFnCritical
set_option linter.unusedVariables false
abbrev SS := S55
/-- What of a span one call does not have. -/
def cutA (k : SC) (s : SS) : List SS := if k.f4 > s.f0 then [⟨s.f0, if s.f1 < k.f4 then s.f1 else k.f4⟩] else []
def cutB (k : SC) (s : SS) : List SS := if k.f5 < s.f1 then [⟨if s.f0 > k.f5 then s.f0 else k.f5, s.f1⟩] else []
def cut1 (k : SC) (s : SS) : List SS := cutA k s ++ cutB k s
def cutL (k : SC) : List SS → List SS
  | [] => []
  | s :: r => cut1 k s ++ cutL k r
def cutAll : List SC → List SS → List SS
  | [], l => l
  | k :: ks, l => cutAll ks (cutL k l)
def tot (p : Int → Bool) : List SS → Int
  | [] => 0
  | s :: r => cnt p s.f0 s.f1 + tot p r
/-- Rising spans within [lo, hi). -/
def Rise (lo hi : Int) : List SS → Prop
  | [] => lo ≤ hi
  | s :: r => lo ≤ s.f0 ∧ s.f0 ≤ s.f1 ∧ Rise s.f1 hi r
theorem Rise.le : ∀ {lo hi : Int} {l : List SS}, Rise lo hi l → lo ≤ hi
  | _, _, [], h => h
  | _, _, s :: r, h => by have := Rise.le h.2.2; have := h.1; have := h.2.1; omega
theorem Rise.lower {lo lo' hi : Int} : ∀ {l : List SS}, lo' ≤ lo → Rise lo hi l → Rise lo' hi l
  | [], h, h2 => Int.le_trans h h2
  | s :: r, h, h2 => ⟨Int.le_trans h h2.1, h2.2⟩
theorem Rise.bounds {lo hi : Int} : ∀ {l : List SS}, Rise lo hi l → ∀ s ∈ l, lo ≤ s.f0 ∧ s.f0 ≤ s.f1 ∧ s.f1 ≤ hi
  | [], _, s, hs => by cases hs
  | x :: r, h, s, hs => by
    rcases List.mem_cons.1 hs with rfl | hs
    · exact ⟨h.1, h.2.1, h.2.2.le⟩
    · have := Rise.bounds h.2.2 s hs
      have := h.1
      have := h.2.1
      omega
theorem cut_one (k : SC) (hk : k.f4 ≤ k.f5) (p : Int → Bool) (s : SS) (hs : s.f0 ≤ s.f1) : tot p (cut1 k s) = cnt (fun x => p x && out1 k x) s.f0 s.f1 := by
  have t1 : ∀ a b : List SS, tot p (a ++ b) = tot p a + tot p b := fun a b => by
    induction a with
    | nil => simp [tot]
    | cons x r ih => simp only [List.cons_append, tot, ih]; omega
  unfold cut1
  rw [t1]
  -- the moments ahead of the call, in it, behind it
  have hA : tot p (cutA k s) = cnt (fun x => p x && out1 k x) s.f0 (max s.f0 (min s.f1 k.f4)) := by
    unfold cutA
    by_cases h : k.f4 > s.f0
    · rw [if_pos h]
      have e : (if s.f1 < k.f4 then s.f1 else k.f4) = max s.f0 (min s.f1 k.f4) := by split <;> omega
      show cnt p s.f0 (if s.f1 < k.f4 then s.f1 else k.f4) + 0 = _
      rw [e, Int.add_zero]
      exact cnt_congr fun x h1 h2 => by rw [out1_true (.inl (by omega)), Bool.and_true]
    · rw [if_neg h, cnt_empty _ (by omega)]
      rfl
  have hB : tot p (cutB k s) = cnt (fun x => p x && out1 k x) (min s.f1 (max s.f0 k.f5)) s.f1 := by
    unfold cutB
    by_cases h : k.f5 < s.f1
    · rw [if_pos h]
      have e : (if s.f0 > k.f5 then s.f0 else k.f5) = min s.f1 (max s.f0 k.f5) := by split <;> omega
      show cnt p (if s.f0 > k.f5 then s.f0 else k.f5) s.f1 + 0 = _
      rw [e, Int.add_zero]
      exact cnt_congr fun x h1 h2 => by rw [out1_true (.inr (by omega)), Bool.and_true]
    · rw [if_neg h, cnt_empty _ (by omega)]
      rfl
  rw [hA, hB, cnt_split _ (show s.f0 ≤ max s.f0 (min s.f1 k.f4) by omega) (show max s.f0 (min s.f1 k.f4) ≤ s.f1 by omega), cnt_split _ (show max s.f0 (min s.f1 k.f4) ≤ min s.f1 (max s.f0 k.f5) by omega) (show min s.f1 (max s.f0 k.f5) ≤ s.f1 by omega),
    cnt_none (a := max s.f0 (min s.f1 k.f4)) (b := min s.f1 (max s.f0 k.f5)) (fun x h1 h2 => by rw [out1_false (by omega), Bool.and_false])]
  omega
theorem tot_app (p : Int → Bool) (a b : List SS) : tot p (a ++ b) = tot p a + tot p b := by
  induction a with
  | nil => simp [tot]
  | cons x r ih => simp only [List.cons_append, tot, ih]; omega
theorem cut_tot (k : SC) (hk : k.f4 ≤ k.f5) (p : Int → Bool) : ∀ (l : List SS), (∀ s ∈ l, s.f0 ≤ s.f1) → tot p (cutL k l) = tot (fun x => p x && out1 k x) l
  | [], _ => rfl
  | s :: r, h => by
    rw [cutL, tot_app, cut_one k hk p s (h s (List.mem_cons_self ..)), cut_tot k hk p r (fun q hq => h q (List.mem_cons_of_mem _ hq))]
    rfl
theorem cut_rise1 (k : SC) (hk : k.f4 ≤ k.f5) (s : SS) (hi : Int) (r : List SS) (hs : s.f0 ≤ s.f1) (hr : Rise s.f1 hi r) : Rise s.f0 hi (cut1 k s ++ r) := by
  unfold cut1 cutA cutB
  by_cases h1 : k.f4 > s.f0
  · rw [if_pos h1]
    by_cases h2 : k.f5 < s.f1
    · rw [if_pos h2]
      refine ⟨Int.le_refl _, ?_, ?_, ?_, hr⟩
      · show s.f0 ≤ (if s.f1 < k.f4 then s.f1 else k.f4)
        split <;> omega
      · show (if s.f1 < k.f4 then s.f1 else k.f4) ≤ (if s.f0 > k.f5 then s.f0 else k.f5)
        (repeat' split) <;> omega
      · show (if s.f0 > k.f5 then s.f0 else k.f5) ≤ s.f1
        split <;> omega
    · rw [if_neg h2]
      refine ⟨Int.le_refl _, ?_, hr.lower ?_⟩
      · show s.f0 ≤ (if s.f1 < k.f4 then s.f1 else k.f4)
        split <;> omega
      · show (if s.f1 < k.f4 then s.f1 else k.f4) ≤ s.f1
        split <;> omega
  · rw [if_neg h1]
    by_cases h2 : k.f5 < s.f1
    · rw [if_pos h2]
      refine ⟨?_, ?_, hr⟩
      · show s.f0 ≤ (if s.f0 > k.f5 then s.f0 else k.f5)
        split <;> omega
      · show (if s.f0 > k.f5 then s.f0 else k.f5) ≤ s.f1
        split <;> omega
    · rw [if_neg h2]
      exact hr.lower hs
theorem cut_rise (k : SC) (hk : k.f4 ≤ k.f5) : ∀ (l : List SS) (lo hi : Int), Rise lo hi l → Rise lo hi (cutL k l)
  | [], _, _, h => h
  | s :: r, lo, hi, h => (cut_rise1 k hk s hi _ h.2.1 (cut_rise k hk r s.f1 hi h.2.2)).lower h.1
/-- Behind a call's end each span stays one. -/
theorem cut_far (k : SC) (hk : k.f4 ≤ k.f5) : ∀ (l : List SS) (lo hi : Int), Rise lo hi l → k.f4 ≤ lo → (cutL k l).length ≤ l.length
  | [], _, _, _, _ => Nat.le_refl _
  | s :: r, lo, hi, h, hlo => by
    have ih := cut_far k hk r s.f1 hi h.2.2 (by have := h.1; have := h.2.1; omega)
    have h1 : cutA k s = [] := by unfold cutA; rw [if_neg (by have := h.1; omega)]
    have h2 : (cutB k s).length ≤ 1 := by unfold cutB; split <;> simp
    simp only [cutL, cut1, h1, List.nil_append, List.length_append, List.length_cons]
    omega
theorem cut_len (k : SC) (hk : k.f4 ≤ k.f5) : ∀ (l : List SS) (lo hi : Int), Rise lo hi l → (cutL k l).length ≤ l.length + 1
  | [], _, _, _ => Nat.zero_le _
  | s :: r, lo, hi, h => by
    have hA : (cutA k s).length ≤ 1 := by unfold cutA; split <;> simp
    have hB : (cutB k s).length ≤ 1 := by unfold cutB; split <;> simp
    simp only [cutL, cut1, List.length_append, List.length_cons]
    by_cases hb : k.f5 < s.f1
    · have := cut_far k hk r s.f1 hi h.2.2 (by omega)
      omega
    · have h2 : cutB k s = [] := by unfold cutB; rw [if_neg hb]
      have := cut_len k hk r s.f1 hi h.2.2
      rw [h2, List.length_nil]
      omega
theorem cutAll_rise : ∀ (ks : List SC) (l : List SS) (lo hi : Int), (∀ k ∈ ks, k.f4 ≤ k.f5) → Rise lo hi l → Rise lo hi (cutAll ks l) ∧ (cutAll ks l).length ≤ l.length + ks.length
  | [], l, lo, hi, _, h => ⟨h, Nat.le_refl _⟩
  | k :: ks, l, lo, hi, hk, h => by
    have hk0 := hk k (List.mem_cons_self ..)
    have h1 := cutAll_rise ks (cutL k l) lo hi (fun q hq => hk q (List.mem_cons_of_mem _ hq)) (cut_rise k hk0 l lo hi h)
    have h2 := cut_len k hk0 l lo hi h
    exact ⟨h1.1, by have := h1.2; simp only [cutAll, List.length_cons]; omega⟩
theorem tot_congr {p q : Int → Bool} (h : ∀ x, p x = q x) (l : List SS) : tot p l = tot q l := by
  have : p = q := funext h
  rw [this]
theorem cutAll_tot : ∀ (ks : List SC) (l : List SS) (lo hi : Int) (p : Int → Bool), (∀ k ∈ ks, k.f4 ≤ k.f5) → Rise lo hi l → tot p (cutAll ks l) = tot (fun x => p x && freeB ks x) l
  | [], l, _, _, p, _, _ => tot_congr (fun x => by simp [freeB]) l
  | k :: ks, l, lo, hi, p, hk, h => by
    have hk0 := hk k (List.mem_cons_self ..)
    rw [cutAll, cutAll_tot ks (cutL k l) lo hi p (fun q hq => hk q (List.mem_cons_of_mem _ hq)) (cut_rise k hk0 l lo hi h), cut_tot k hk0 _ l (fun s hs => (h.bounds s hs).2.1)]
    refine tot_congr (fun x => ?_) l
    show ((p x && freeB ks x) && out1 k x) = (p x && freeB (k :: ks) x)
    have e : freeB (k :: ks) x = (out1 k x && freeB ks x) := by unfold freeB; rw [List.all_cons]
    rw [e]
    cases p x <;> cases freeB ks x <;> cases out1 k x <;> rfl
/-- The lengths of the spans that are left. -/
def lens : List SS → Int
  | [] => 0
  | s :: r => (s.f1 - s.f0) + lens r
theorem lens_tot : ∀ (l : List SS) (lo hi : Int), Rise lo hi l → lens l = tot (fun _ => true) l
  | [], _, _, _ => rfl
  | s :: r, lo, hi, h => by
    rw [lens, tot, lens_tot r s.f1 hi h.2.2, cnt_all h.2.1 (fun _ _ _ => rfl)]
theorem lens_le : ∀ (l : List SS) (lo hi : Int), Rise lo hi l → 0 ≤ lens l ∧ lens l ≤ hi - lo
  | [], lo, hi, h => by have h' : lo ≤ hi := h; simp only [lens]; omega
  | s :: r, lo, hi, h => by
    have h1 := lens_le r s.f1 hi h.2.2
    have := h.1
    have := h.2.1
    simp only [lens]
    omega
theorem lens_self (x : SC) (ks : List SC) (hx : x.f4 ≤ x.f5) (hk : ∀ k ∈ ks, k.f4 ≤ k.f5) : lens (cutAll ks [⟨x.f4, x.f5⟩]) = selfM x ks := by
  have hr : Rise x.f4 x.f5 [(⟨x.f4, x.f5⟩ : SS)] := ⟨Int.le_refl _, hx, Int.le_refl x.f5⟩
  rw [lens_tot _ _ _ (cutAll_rise ks _ _ _ hk hr).1, cutAll_tot ks _ _ _ _ hk hr]
  show cnt _ x.f4 x.f5 + 0 = _
  rw [Int.add_zero]
  exact cnt_congr fun p _ _ => by simp
end Go.Proofs.Ytalhphclogbpnaa.PFnCritical
