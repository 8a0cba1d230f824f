/- slices.SortStableFunc: the plain layer: exchanges of ranges, rotations, the merge of two sorted runs (symMerge), blocks. No program in sight. -/
import Derived.Sort.LotA
namespace Go.Proofs.Ytalhphclogbpnaa.St
open Go.Sort
set_option linter.unusedVariables false
set_option linter.unusedSectionVars false
variable {α : Type} [Inhabited α] {lt : α → α → Bool}
def swapIx (a b n t : Nat) : Nat := if a ≤ t ∧ t < a + n then b + (t - a) else if b ≤ t ∧ t < b + n then a + (t - b) else t
def rotIx (a m b t : Nat) : Nat := if a ≤ t ∧ t < a + (b - m) then m + (t - a) else if a + (b - m) ≤ t ∧ t < b then t - (b - m) else t
def swapGo (a b : Nat) (d : Array α) : Nat → Array α
  | 0 => d
  | n + 1 => swp (swapGo a b d n) (a + n) (b + n)
theorem key (d : Array α) {x y : Nat} (h : x = y) : d[x]! = d[y]! := by rw [h]
theorem swapGo_size (a b : Nat) (d : Array α) : ∀ n, (swapGo a b d n).size = d.size
  | 0 => rfl
  | n + 1 => by rw [swapGo, swp_size, swapGo_size a b d n]
theorem swapGo_get (a b : Nat) (d : Array α) : ∀ n, a + n ≤ b → b + n ≤ d.size → ∀ t, (swapGo a b d n)[t]! = d[swapIx a b n t]!
  | 0, _, _, t => by
    have e : swapIx a b 0 t = t := by unfold swapIx; (repeat' split) <;> omega
    rw [e]; rfl
  | n + 1, h, hb, t => by
    rw [swapGo, swp_get _ (by rw [swapGo_size]; omega) (by rw [swapGo_size]; omega)]
    have g := swapGo_get a b d n (by omega) (by omega)
    by_cases h1 : t = b + n
    · have e0 : swapIx a b n (a + n) = a + n := by unfold swapIx; (repeat' split) <;> omega
      have e1 : swapIx a b (n + 1) t = a + n := by unfold swapIx; (repeat' split) <;> omega
      subst h1
      first | rw [if_pos rfl, g, e0, e1] | (simp only [g, e0, e1]; simp; omega) | (split <;> simp_all <;> omega)
    · by_cases h2 : t = a + n
      · have e0 : swapIx a b n (b + n) = b + n := by unfold swapIx; (repeat' split) <;> omega
        have e1 : swapIx a b (n + 1) t = b + n := by unfold swapIx; (repeat' split) <;> omega
        subst h2
        first | rw [if_neg h1, if_pos rfl, g, e0, e1] | (rw [if_pos rfl]; rw [g, e0, e1]) | (split <;> simp_all <;> omega)
      · have e1 : swapIx a b (n + 1) t = swapIx a b n t := by unfold swapIx; (repeat' split) <;> omega
        first | rw [if_neg h1, if_neg h2, g, e1] | rw [if_neg h2, if_neg h1, g, e1] | (split <;> simp_all <;> omega)
theorem swapGo_perm (a b lo hi : Nat) (d : Array α) (hlo : lo ≤ a) (hhi : hi ≤ d.size) : ∀ n, a + n ≤ b → b + n ≤ hi → PermIn lo hi d (swapGo a b d n)
  | 0, _, _ => permIn_refl _ _ _
  | n + 1, h, hb => permIn_trans _ _ _ _ _ (swapGo_perm a b lo hi d hlo hhi n (by omega) (by omega)) (swp_permIn _ _ _ _ _ (by omega) (by omega) (by omega) (by omega) (by rw [swapGo_size]; exact hhi))
/-- e is d with the two neighbours [a, m), [m, b) exchanged. -/
def Rot (a m b : Nat) (d e : Array α) : Prop := PermIn a b d e ∧ ∀ t, e[t]! = d[rotIx a m b t]!
theorem rot_eq (lo m i : Nat) (d : Array α) (h : lo + i = m) (hs : m + i ≤ d.size) : Rot lo m (m + i) d (swapGo lo m d i) := by
  refine ⟨swapGo_perm _ _ _ _ _ (Nat.le_refl _) hs i (by omega) (Nat.le_refl _), fun t => ?_⟩
  rw [swapGo_get _ _ _ _ (by omega) hs]
  congr 1
  unfold swapIx rotIx
  (repeat' split) <;> omega
theorem rot_big (lo m i j : Nat) (d e : Array α) (h : lo + i = m) (hj : j < i) (hs : m + j ≤ d.size) (hr : Rot (lo + j) m (m + j) (swapGo lo m d j) e) : Rot lo m (m + j) d e := by
  obtain ⟨hp, hg⟩ := hr
  refine ⟨permIn_trans _ _ _ _ _ (swapGo_perm _ _ _ _ _ (Nat.le_refl _) hs j (by omega) (Nat.le_refl _)) (permIn_mono _ _ _ _ _ _ (by omega) (Nat.le_refl _) (by rw [swapGo_size]; exact hs) hp), fun t => ?_⟩
  rw [hg, swapGo_get _ _ _ _ (by omega) hs]
  congr 1
  unfold swapIx rotIx
  (repeat' split) <;> omega
theorem rot_small (lo m i j : Nat) (d e : Array α) (h : lo + i = m) (hj : i < j) (hs : m + j ≤ d.size) (hr : Rot lo m (m + (j - i)) (swapGo lo (m + (j - i)) d i) e) : Rot lo m (m + j) d e := by
  obtain ⟨hp, hg⟩ := hr
  refine ⟨permIn_trans _ _ _ _ _ (swapGo_perm _ _ _ _ _ (Nat.le_refl _) hs i (by omega) (by omega)) (permIn_mono _ _ _ _ _ _ (Nat.le_refl _) (by omega) (by rw [swapGo_size]; exact hs) hp), fun t => ?_⟩
  rw [hg, swapGo_get _ _ _ _ (by omega) (by omega)]
  congr 1
  unfold swapIx rotIx
  (repeat' split) <;> omega
theorem rot_none (a m b : Nat) (d : Array α) (h : a = m ∨ m = b) (h1 : a ≤ m) (h2 : m ≤ b) : Rot a m b d d := by
  refine ⟨permIn_refl _ _ _, fun t => ?_⟩
  congr 1
  unfold rotIx
  (repeat' split) <;> omega
def upGo (a : Nat) (d : Array α) : Nat → Array α
  | 0 => d
  | n + 1 => swp (upGo a d n) (a + n) (a + n + 1)
theorem upGo_size (a : Nat) (d : Array α) : ∀ n, (upGo a d n).size = d.size
  | 0 => rfl
  | n + 1 => by rw [upGo, swp_size, upGo_size a d n]
theorem upGo_rot (a : Nat) (d : Array α) : ∀ n, a + n < d.size → Rot a (a + 1) (a + 1 + n) d (upGo a d n)
  | 0, _ => rot_none _ _ _ _ (.inr rfl) (by omega) (by omega)
  | n + 1, h => by
    obtain ⟨hp, hg⟩ := upGo_rot a d n (by omega)
    refine ⟨permIn_trans _ _ _ _ _ (permIn_mono _ _ _ _ _ _ (Nat.le_refl _) (by omega) (by omega) hp) (swp_permIn _ _ _ _ _ (by omega) (by omega) (by omega) (by omega) (by rw [upGo_size]; omega)), fun t => ?_⟩
    rw [upGo, swp_get _ (by rw [upGo_size]; omega) (by rw [upGo_size]; omega)]
    simp only [hg]
    unfold rotIx
    (repeat' split) <;> first | (refine key _ ?_; omega) | (exfalso; omega)
def downGo (m : Nat) (d : Array α) : Nat → Array α
  | 0 => d
  | n + 1 => swp (downGo m d n) (m - n) (m - n - 1)
theorem downGo_size (m : Nat) (d : Array α) : ∀ n, (downGo m d n).size = d.size
  | 0 => rfl
  | n + 1 => by rw [downGo, swp_size, downGo_size m d n]
theorem downGo_rot (m : Nat) (d : Array α) (hm : m < d.size) : ∀ n, n ≤ m → Rot (m - n) m (m + 1) d (downGo m d n)
  | 0, _ => rot_none _ _ _ _ (.inl rfl) (by omega) (by omega)
  | n + 1, h => by
    obtain ⟨hp, hg⟩ := downGo_rot m d hm n (by omega)
    refine ⟨permIn_trans _ _ _ _ _ (permIn_mono _ _ _ _ _ _ (by omega) (Nat.le_refl _) (by omega) hp) (swp_permIn _ _ _ _ _ (by omega) (by omega) (by omega) (by omega) (by rw [downGo_size]; omega)), fun t => ?_⟩
    rw [downGo, swp_get _ (by rw [downGo_size]; omega) (by rw [downGo_size]; omega)]
    simp only [hg]
    unfold rotIx
    (repeat' split) <;> first | (refine key _ ?_; omega) | (exfalso; omega)
theorem asymm (hS : SWO lt) {x y : α} (h : lt x y = true) : lt y x = false := by
  cases h2 : lt y x with
  | false => rfl
  | true => have := hS.trans _ _ _ h h2; rw [hS.irrefl] at this; cases this
/-- x ≤ y ≤ z. -/
theorem le_trans' (hS : SWO lt) {x y z : α} (h1 : lt y x = false) (h2 : lt z y = false) : lt z x = false := hS.ntrans _ _ _ h2 h1
/-- x ≤ y < z. -/
theorem lt_of_le_lt (hS : SWO lt) {x y z : α} (h1 : lt y x = false) (h2 : lt y z = true) : lt x z = true := by
  cases h : lt x z with
  | true => rfl
  | false => have := hS.ntrans _ _ _ h1 h; rw [this] at h2; cases h2
/-- x < y ≤ z. -/
theorem lt_of_lt_le (hS : SWO lt) {x y z : α} (h1 : lt x y = true) (h2 : lt z y = false) : lt x z = true := by
  cases h : lt x z with
  | true => rfl
  | false => have := hS.ntrans _ _ _ h h2; rw [this] at h1; cases h1
/-- z ≥ y ≥ x, told from above. -/
theorem ge_of_ge_le (hS : SWO lt) {x y z : α} (h1 : lt y x = false) (h2 : lt z y = false) : lt z x = false := hS.ntrans _ _ _ h2 h1
theorem le_of_le_le (hS : SWO lt) {x y z : α} (h1 : lt y x = false) (h2 : lt z y = false) : lt z x = false := hS.ntrans _ _ _ h2 h1
theorem sorted_le (hS : SWO lt) {a b : Nat} {d : Array α} (h : SortedIn lt a b d) {i j : Nat} (h1 : a ≤ i) (h2 : i ≤ j) (h3 : j < b) : lt d[j]! d[i]! = false := by
  rcases Nat.lt_or_eq_of_le h2 with h2 | rfl
  · exact h i j h1 h2 h3
  · exact hS.irrefl _
/-- One element ahead of a sorted run, put where it belongs. -/
theorem merge_one (hS : SWO lt) (a i b : Nat) (d e : Array α) (hi : a + 1 ≤ i) (hib : i ≤ b) (hs : SortedIn lt (a + 1) b d) (h1 : ∀ h, a + 1 ≤ h → h < i → lt d[h]! d[a]! = true) (h2 : ∀ h, i ≤ h → h < b → lt d[h]! d[a]! = false) (hr : Rot a (a + 1) i d e) : SortedIn lt a b e := by
  intro p q hp hpq hq
  rw [hr.2 p, hr.2 q]
  by_cases hp1 : p < i - 1
  · have ep : rotIx a (a + 1) i p = p + 1 := by unfold rotIx; (repeat' split) <;> omega
    rw [ep]
    by_cases hq1 : q < i - 1
    · have eq : rotIx a (a + 1) i q = q + 1 := by unfold rotIx; (repeat' split) <;> omega
      rw [eq]
      exact hs _ _ (by omega) (by omega) (by omega)
    · by_cases hq2 : q = i - 1
      · have eq : rotIx a (a + 1) i q = a := by unfold rotIx; (repeat' split) <;> omega
        rw [eq]
        exact asymm hS (h1 _ (by omega) (by omega))
      · have eq : rotIx a (a + 1) i q = q := by unfold rotIx; (repeat' split) <;> omega
        rw [eq]
        exact hs _ _ (by omega) (by omega) (by omega)
  · have eq : rotIx a (a + 1) i q = q := by unfold rotIx; (repeat' split) <;> omega
    rw [eq]
    by_cases hp2 : p = i - 1
    · have ep : rotIx a (a + 1) i p = a := by unfold rotIx; (repeat' split) <;> omega
      rw [ep]
      exact h2 _ (by omega) (by omega)
    · have ep : rotIx a (a + 1) i p = p := by unfold rotIx; (repeat' split) <;> omega
      rw [ep]
      exact hs _ _ (by omega) (by omega) (by omega)
/-- One element behind a sorted run, put where it belongs. -/
theorem merge_last (hS : SWO lt) (a i m : Nat) (d e : Array α) (hi : a ≤ i) (him : i ≤ m) (hs : SortedIn lt a m d) (h1 : ∀ h, a ≤ h → h < i → lt d[m]! d[h]! = false) (h2 : ∀ h, i ≤ h → h < m → lt d[m]! d[h]! = true) (hr : Rot i m (m + 1) d e) : SortedIn lt a (m + 1) e := by
  intro p q hp hpq hq
  rw [hr.2 p, hr.2 q]
  by_cases hq1 : q < i
  · have eq : rotIx i m (m + 1) q = q := by unfold rotIx; (repeat' split) <;> omega
    have ep : rotIx i m (m + 1) p = p := by unfold rotIx; (repeat' split) <;> omega
    rw [eq, ep]
    exact hs _ _ (by omega) (by omega) (by omega)
  · by_cases hq2 : q = i
    · have eq : rotIx i m (m + 1) q = m := by unfold rotIx; (repeat' split) <;> omega
      have ep : rotIx i m (m + 1) p = p := by unfold rotIx; (repeat' split) <;> omega
      rw [eq, ep]
      exact h1 _ (by omega) (by omega)
    · have eq : rotIx i m (m + 1) q = q - 1 := by unfold rotIx; (repeat' split) <;> omega
      rw [eq]
      by_cases hp1 : p < i
      · have ep : rotIx i m (m + 1) p = p := by unfold rotIx; (repeat' split) <;> omega
        rw [ep]
        exact hs _ _ (by omega) (by omega) (by omega)
      · by_cases hp2 : p = i
        · have ep : rotIx i m (m + 1) p = m := by unfold rotIx; (repeat' split) <;> omega
          rw [ep]
          exact asymm hS (h2 _ (by omega) (by omega))
        · have ep : rotIx i m (m + 1) p = p - 1 := by unfold rotIx; (repeat' split) <;> omega
          rw [ep]
          exact hs _ _ (by omega) (by omega) (by omega)
/-- What a rotation about the found place leaves: four sorted runs, none of the left half above one of the right half. -/
theorem merge_main (hS : SWO lt) (a m b mid s f : Nat) (d e : Array α) (has : a ≤ s) (hsm : s ≤ m) (hmf : m ≤ f) (hfb : f ≤ b) (hmid : s + f = mid + m) (h1 : SortedIn lt a m d) (h2 : SortedIn lt m b d)
    (hL : a < s → f < b → lt d[f]! d[s - 1]! = false) (hR : m < f → s < m → lt d[f - 1]! d[s]! = true) (hr : Rot s m f d e) :
    SortedIn lt a s e ∧ SortedIn lt s mid e ∧ SortedIn lt mid f e ∧ SortedIn lt f b e ∧ ∀ p q, a ≤ p → p < mid → mid ≤ q → q < b → lt e[q]! e[p]! = false := by
  have g := hr.2
  have A : ∀ t, t < s → e[t]! = d[t]! := fun t ht => by rw [g]; congr 1; unfold rotIx; (repeat' split) <;> omega
  have B : ∀ t, s ≤ t → t < mid → e[t]! = d[m + (t - s)]! := fun t h3 h4 => by rw [g]; congr 1; unfold rotIx; (repeat' split) <;> omega
  have C : ∀ t, mid ≤ t → t < f → e[t]! = d[t - (f - m)]! := fun t h3 h4 => by rw [g]; congr 1; unfold rotIx; (repeat' split) <;> omega
  have D : ∀ t, f ≤ t → e[t]! = d[t]! := fun t h3 => by rw [g]; congr 1; unfold rotIx; (repeat' split) <;> omega
  refine ⟨?_, ?_, ?_, ?_, ?_⟩
  · intro i j hi hij hj
    rw [A i (by omega), A j (by omega)]
    exact h1 _ _ (by omega) (by omega) (by omega)
  · intro i j hi hij hj
    rw [B i (by omega) (by omega), B j (by omega) (by omega)]
    exact h2 _ _ (by omega) (by omega) (by omega)
  · intro i j hi hij hj
    rw [C i (by omega) (by omega), C j (by omega) (by omega)]
    exact h1 _ _ (by omega) (by omega) (by omega)
  · intro i j hi hij hj
    rw [D i (by omega), D j (by omega)]
    exact h2 _ _ (by omega) (by omega) (by omega)
  · intro p q hp hpm hq hqb
    by_cases hp1 : p < s
    · rw [A p hp1]
      by_cases hq1 : q < f
      · rw [C q hq hq1]
        exact h1 _ _ hp (by omega) (by omega)
      · rw [D q (by omega)]
        have l1 : lt d[s - 1]! d[p]! = false := sorted_le hS h1 hp (by omega) (by omega)
        have l2 : lt d[q]! d[f]! = false := sorted_le hS h2 hmf (by omega) hqb
        exact le_trans' hS (le_trans' hS l1 (hL (by omega) (by omega))) l2
    · rw [B p (by omega) hpm]
      by_cases hq1 : q < f
      · rw [C q hq hq1]
        have l1 : lt d[f - 1]! d[m + (p - s)]! = false := sorted_le hS h2 (by omega) (by omega) (by omega)
        have l2 : lt d[q - (f - m)]! d[s]! = false := sorted_le hS h1 has (by omega) (by omega)
        exact le_trans' hS (le_trans' hS l1 (asymm hS (hR (by omega) (by omega)))) l2
      · rw [D q (by omega)]
        exact h2 _ _ (by omega) (by omega) hqb
theorem perm_out {a b : Nat} {d e : Array α} (h : PermIn a b d e) {t : Nat} (ht : t < a ∨ b ≤ t) : e[t]! = d[t]! := h.2.1 t ht
theorem perm_size {a b : Nat} {d e : Array α} (h : PermIn a b d e) : e.size = d.size := h.1
theorem sorted_out {a b a' b' : Nat} {d e : Array α} (h : PermIn a b d e) (hd : b' ≤ a ∨ b ≤ a') (hs : SortedIn lt a' b' d) : SortedIn lt a' b' e := by
  intro i j hi hij hj
  rw [perm_out h (by omega), perm_out h (by omega)]
  exact hs i j hi hij hj
/-- Two halves, each sorted by itself, none of the left above one of the right. -/
theorem merge_join (a mid b : Nat) (e e2 e3 : Array α) (h1 : a ≤ mid) (h2 : mid ≤ b) (hb : b ≤ e.size) (hx : ∀ p q, a ≤ p → p < mid → mid ≤ q → q < b → lt e[q]! e[p]! = false)
    (p2 : PermIn a mid e e2) (s2 : SortedIn lt a mid e2) (p3 : PermIn mid b e2 e3) (s3 : SortedIn lt mid b e3) : SortedIn lt a b e3 := by
  have hz : e2.size = e.size := p2.1
  have x2 : ∀ q, mid ≤ q → q < b → ∀ p, a ≤ p → p < mid → lt e2[q]! e2[p]! = false := fun q hq hqb => by
    rw [perm_out p2 (.inr hq)]
    exact permIn_all e e2 a mid (fun x => lt e[q]! x = false) (by omega) p2 (fun p hp hpm => hx p q hp hpm hq hqb)
  have x3 : ∀ p, a ≤ p → p < mid → ∀ q, mid ≤ q → q < b → lt e3[q]! e3[p]! = false := fun p hp hpm => by
    rw [perm_out p3 (.inl hpm)]
    exact permIn_all e2 e3 mid b (fun x => lt x e2[p]! = false) (by omega) p3 (fun q hq hqb => x2 q hq hqb p hp hpm)
  intro i j hi hij hj
  by_cases hjm : j < mid
  · rw [perm_out p3 (.inl hjm), perm_out p3 (.inl (by omega))]
    exact s2 i j hi hij hjm
  · by_cases him : i < mid
    · exact x3 i hi him j (by omega) hj
    · exact s3 i j (by omega) hij hj
end Go.Proofs.Ytalhphclogbpnaa.St
