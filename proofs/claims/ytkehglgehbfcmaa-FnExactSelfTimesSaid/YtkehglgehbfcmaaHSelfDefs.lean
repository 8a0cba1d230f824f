/- What of a call none of its kids has: counted in plain words; the sweep over the kids in order comes to it. -/
import Derived.Test.YtkehglgehbfcmaaHKids
namespace Go.Proofs.Ytkehglgehbfcmaa.PFnExactSelfTimes
set_option linter.unusedVariables false
/-- How many of a, a + 1, .. (n of them) have p. -/
def cntN (p : Int → Bool) (a : Int) : Nat → Int
  | 0 => 0
  | n + 1 => cntN p a n + (if p (a + n) then 1 else 0)
def cnt (p : Int → Bool) (a b : Int) : Int := cntN p a (b - a).toNat
theorem cntN_congr {p q : Int → Bool} (a : Int) : ∀ n : Nat, (∀ x, a ≤ x → x < a + n → p x = q x) → cntN p a n = cntN q a n
  | 0, _ => rfl
  | n + 1, h => by rw [cntN, cntN, cntN_congr a n (fun x h1 h2 => h x h1 (by omega)), h (a + n) (by omega) (by omega)]
theorem cntN_add (p : Int → Bool) (a : Int) (m : Nat) : ∀ n : Nat, cntN p a (m + n) = cntN p a m + cntN p (a + m) n
  | 0 => by simp [cntN]
  | n + 1 => by
    rw [← Nat.add_assoc, cntN, cntN, cntN_add p a m n]
    have e : a + ((m + n : Nat) : Int) = a + (m : Int) + (n : Int) := by omega
    rw [e]
    omega
theorem cntN_all {p : Int → Bool} (a : Int) : ∀ n : Nat, (∀ x, a ≤ x → x < a + n → p x = true) → cntN p a n = n
  | 0, _ => rfl
  | n + 1, h => by rw [cntN, cntN_all a n (fun x h1 h2 => h x h1 (by omega)), h (a + n) (by omega) (by omega)]; simp
theorem cntN_none {p : Int → Bool} (a : Int) : ∀ n : Nat, (∀ x, a ≤ x → x < a + n → p x = false) → cntN p a n = 0
  | 0, _ => rfl
  | n + 1, h => by rw [cntN, cntN_none a n (fun x h1 h2 => h x h1 (by omega)), h (a + n) (by omega) (by omega)]; simp
theorem cnt_congr {p q : Int → Bool} {a b : Int} (h : ∀ x, a ≤ x → x < b → p x = q x) : cnt p a b = cnt q a b := by
  unfold cnt
  by_cases hab : a ≤ b
  · exact cntN_congr a _ (fun x h1 h2 => h x h1 (by omega))
  · have e : (b - a).toNat = 0 := by omega
    rw [e]; rfl
theorem cnt_split (p : Int → Bool) {a b c : Int} (h1 : a ≤ b) (h2 : b ≤ c) : cnt p a c = cnt p a b + cnt p b c := by
  unfold cnt
  have e : (c - a).toNat = (b - a).toNat + (c - b).toNat := by omega
  have e2 : a + (((b - a).toNat : Nat) : Int) = b := by omega
  rw [e, cntN_add, e2]
theorem cnt_all {p : Int → Bool} {a b : Int} (hab : a ≤ b) (h : ∀ x, a ≤ x → x < b → p x = true) : cnt p a b = b - a := by
  unfold cnt
  rw [cntN_all a _ (fun x h1 h2 => h x h1 (by omega))]
  omega
theorem cnt_none {p : Int → Bool} {a b : Int} (h : ∀ x, a ≤ x → x < b → p x = false) : cnt p a b = 0 := by
  unfold cnt
  exact cntN_none a _ (fun x h1 h2 => h x h1 (by omega))
theorem cnt_empty (p : Int → Bool) {a b : Int} (h : b ≤ a) : cnt p a b = 0 := by
  unfold cnt
  have e : (b - a).toNat = 0 := by omega
  rw [e]; rfl
/-- A moment lies in none of the calls. -/
def out1 (k : SC) (p : Int) : Bool := !(decide (k.f4 ≤ p) && decide (p < k.f5))
def freeB (ks : List SC) (p : Int) : Bool := ks.all fun k => out1 k p
def selfM (x : SC) (ks : List SC) : Int := cnt (freeB ks) x.f4 x.f5
theorem freeB_perm {a b : List SC} (h : a.Perm b) (p : Int) : freeB a p = freeB b p := by
  unfold freeB
  rw [Bool.eq_iff_iff, List.all_eq_true, List.all_eq_true]
  exact ⟨fun q k hk => q k (h.mem_iff.2 hk), fun q k hk => q k (h.mem_iff.1 hk)⟩
theorem selfM_perm (x : SC) {a b : List SC} (h : a.Perm b) : selfM x a = selfM x b := cnt_congr fun p _ _ => freeB_perm h p
def minI (a b : Int) : Int := if b < a then b else a
def maxI (a b : Int) : Int := if a < b then b else a
theorem minI_eq (a b : Int) : minI a b = min a b := by unfold minI; split <;> omega
theorem maxI_eq (a b : Int) : maxI a b = max a b := by unfold maxI; split <;> omega
def sweepM (t : Int) : List SC → Int → Int → Int × Int
  | [], n, p => (n, p)
  | k :: ks, n, p => sweepM t ks (n + maxI 0 (minI k.f4 t - p)) (maxI p (minI k.f5 t))
theorem free_snoc (ks : List SC) (k : SC) (p : Int) : freeB (ks ++ [k]) p = (freeB ks p && out1 k p) := by unfold freeB; rw [List.all_append]; simp
theorem out1_false {k : SC} {p : Int} (h : k.f4 ≤ p ∧ p < k.f5) : out1 k p = false := by unfold out1; simp [h.1, h.2]
theorem out1_true {k : SC} {p : Int} (h : p < k.f4 ∨ k.f5 ≤ p) : out1 k p = true := by
  unfold out1
  rcases h with h | h
  · have : decide (k.f4 ≤ p) = false := decide_eq_false (by omega)
    simp [this]
  · have : decide (p < k.f5) = false := decide_eq_false (by omega)
    simp [this]
theorem free_of {ks : List SC} {p : Int} (h : ∀ k ∈ ks, k.f5 ≤ p ∨ p < k.f4) : freeB ks p = true := by
  unfold freeB
  rw [List.all_eq_true]
  exact fun k hk => out1_true ((h k hk).symm)
theorem free_false {ks : List SC} {k : SC} {p : Int} (hk : k ∈ ks) (h : k.f4 ≤ p ∧ p < k.f5) : freeB ks p = false := by
  cases e : freeB ks p with
  | false => rfl
  | true =>
    unfold freeB at e
    have := List.all_eq_true.1 e k hk
    rw [out1_false h] at this
    cases this
/-- The sweep, told of what lies behind it. -/
theorem sweep_inv (s t : Int) (hst : s ≤ t) : ∀ (ks P : List SC) (n p : Int), (∀ k ∈ ks, k.f4 ≤ k.f5) → (P ++ ks).Pairwise (fun x y => x.f4 ≤ y.f4) → s ≤ p → p ≤ t → (∀ k ∈ P, min k.f5 t ≤ p) → (p = s ∨ ∃ k ∈ P, p ≤ k.f5) → n = cnt (freeB P) s p →
    (sweepM t ks n p).1 + t - (sweepM t ks n p).2 = cnt (freeB (P ++ ks)) s t
  | [], P, n, p, _, _, h1, h2, h3, _, h5 => by
    show n + t - p = _
    rw [List.append_nil, cnt_split (freeB P) h1 h2, ← h5, cnt_all h2 (fun x hx hxt => free_of fun k hk => by have := h3 k hk; omega)]
    omega
  | k :: ks, P, n, p, hk, hs, h1, h2, h3, h4, h5 => by
    have hk0 := hk k (List.mem_cons_self ..)
    have e : P ++ k :: ks = (P ++ [k]) ++ ks := by simp
    have hle : ∀ q ∈ P, q.f4 ≤ k.f4 := fun q hq => by
      rw [List.pairwise_append] at hs
      exact hs.2.2 q hq k (List.mem_cons_self ..)
    rw [sweepM, e, minI_eq, minI_eq, maxI_eq, maxI_eq]
    refine sweep_inv s t hst ks (P ++ [k]) _ _ (fun q hq => hk q (List.mem_cons_of_mem _ hq)) (by rw [← e]; exact hs) (by omega) (by omega) ?_ ?_ ?_
    · intro q hq
      rcases List.mem_append.1 hq with hq | hq
      · have := h3 q hq; omega
      · rw [List.mem_singleton] at hq; subst hq; omega
    · by_cases hc : p < min k.f5 t
      · exact .inr ⟨k, by simp, by omega⟩
      · rcases h4 with h4 | ⟨q, hq, h4⟩
        · exact .inl (by omega)
        · exact .inr ⟨q, by simp [hq], by omega⟩
    · have c1 : cnt (freeB (P ++ [k])) s p = cnt (freeB P) s p := cnt_congr fun x hx hxp => by
        rw [free_snoc]
        by_cases hin : k.f4 ≤ x ∧ x < k.f5
        · rcases h4 with h4 | ⟨q, hq, h4⟩
          · omega
          · rw [free_false hq ⟨by have := hle q hq; omega, by omega⟩]; rfl
        · rw [out1_true (by omega), Bool.and_true]
      have hP : ∀ x, p ≤ x → x < t → freeB P x = true := fun x hx hxt => free_of fun q hq => by have := h3 q hq; omega
      rw [cnt_split _ h1 (show p ≤ max p (min k.f5 t) by omega), c1, ← h5]
      congr 1
      by_cases hc : p < min k.f5 t
      · have em : max p (min k.f5 t) = min k.f5 t := by omega
        rw [em]
        by_cases hd : p < min k.f4 t
        · rw [cnt_split _ (show p ≤ min k.f4 t by omega) (show min k.f4 t ≤ min k.f5 t by omega)]
          rw [cnt_all (by omega) (fun x hx hx2 => by rw [free_snoc, hP x hx (by omega), out1_true (.inl (by omega))]; rfl), cnt_none (fun x hx hx2 => by rw [free_snoc, out1_false (by omega), Bool.and_false])]
          omega
        · rw [cnt_none (fun x hx hx2 => by rw [free_snoc, out1_false (by omega), Bool.and_false])]
          omega
      · rw [cnt_empty _ (by omega)]
        omega
theorem sweep_self (x : SC) (ks ks' : List SC) (hx : x.f4 ≤ x.f5) (hk : ∀ k ∈ ks, k.f4 ≤ k.f5) (hp : ks'.Perm ks) (hs : ks'.Pairwise (fun x y => x.f4 ≤ y.f4)) :
    (sweepM x.f5 ks' 0 x.f4).1 + x.f5 - (sweepM x.f5 ks' 0 x.f4).2 = selfM x ks := by
  rw [← selfM_perm x hp]
  have := sweep_inv x.f4 x.f5 hx ks' [] 0 x.f4 (fun k h => hk k (hp.mem_iff.1 h)) (by simpa using hs) (Int.le_refl _) hx (fun k h => by cases h) (.inl rfl) (cnt_empty _ (Int.le_refl _)).symm
  unfold selfM
  simpa using this
end Go.Proofs.Ytkehglgehbfcmaa.PFnExactSelfTimes
