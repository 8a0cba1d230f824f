/- Spans with calls cut out of them: what is left counts the moments in none of the calls. Plain lists. -/
import Derived.Test.YtkehglgehbfcmaaHSelfDefs
namespace Go.Proofs.Ytkehglgehbfcmaa.PFnExactSelfTimes
set_option linter.unusedVariables false
abbrev SS := S42
/-- What of a span one call does not have. -/
def cutA (k : SC) (s : SS) : List SS := if k.f4 > s.f0 then [⟨s.f0, if s.f1 < k.f4 then s.f1 else k.f4⟩] else []
def cutB (k : SC) (s : SS) : List SS := if k.f5 < s.f1 then [⟨if s.f0 > k.f5 then s.f0 else k.f5, s.f1⟩] else []
def cut1 (k : SC) (s : SS) : List SS := cutA k s ++ cutB k s
def cutL (k : SC) : List SS → List SS
  | [] => []
  | s :: r => cut1 k s ++ cutL k r
def cutAll : List SC → List SS → List SS
  | [], l => l
  | k :: ks, l => cutAll ks (cutL k l)
def tot (p : Int → Bool) : List SS → Int
  | [] => 0
  | s :: r => cnt p s.f0 s.f1 + tot p r
/-- Rising spans within [lo, hi). -/
def Rise (lo hi : Int) : List SS → Prop
  | [] => lo ≤ hi
  | s :: r => lo ≤ s.f0 ∧ s.f0 ≤ s.f1 ∧ Rise s.f1 hi r
theorem Rise.le : ∀ {lo hi : Int} {l : List SS}, Rise lo hi l → lo ≤ hi
  | _, _, [], h => h
  | _, _, s :: r, h => by have := Rise.le h.2.2; have := h.1; have := h.2.1; omega
theorem Rise.lower {lo lo' hi : Int} : ∀ {l : List SS}, lo' ≤ lo → Rise lo hi l → Rise lo' hi l
  | [], h, h2 => Int.le_trans h h2
  | s :: r, h, h2 => ⟨Int.le_trans h h2.1, h2.2⟩
theorem Rise.bounds {lo hi : Int} : ∀ {l : List SS}, Rise lo hi l → ∀ s ∈ l, lo ≤ s.f0 ∧ s.f0 ≤ s.f1 ∧ s.f1 ≤ hi
  | [], _, s, hs => by cases hs
  | x :: r, h, s, hs => by
    rcases List.mem_cons.1 hs with rfl | hs
    · exact ⟨h.1, h.2.1, h.2.2.le⟩
    · have := Rise.bounds h.2.2 s hs
      have := h.1
      have := h.2.1
      omega
theorem cut_one (k : SC) (hk : k.f4 ≤ k.f5) (p : Int → Bool) (s : SS) (hs : s.f0 ≤ s.f1) : tot p (cut1 k s) = cnt (fun x => p x && out1 k x) s.f0 s.f1 := by
  have t1 : ∀ a b : List SS, tot p (a ++ b) = tot p a + tot p b := fun a b => by
    induction a with
    | nil => simp [tot]
    | cons x r ih => simp only [List.cons_append, tot, ih]; omega
  unfold cut1
  rw [t1]
  -- the moments ahead of the call, in it, behind it
  have hA : tot p (cutA k s) = cnt (fun x => p x && out1 k x) s.f0 (max s.f0 (min s.f1 k.f4)) := by
    unfold cutA
    by_cases h : k.f4 > s.f0
    · rw [if_pos h]
      have e : (if s.f1 < k.f4 then s.f1 else k.f4) = max s.f0 (min s.f1 k.f4) := by split <;> omega
      show cnt p s.f0 (if s.f1 < k.f4 then s.f1 else k.f4) + 0 = _
      rw [e, Int.add_zero]
      exact cnt_congr fun x h1 h2 => by rw [out1_true (.inl (by omega)), Bool.and_true]
    · rw [if_neg h, cnt_empty _ (by omega)]
      rfl
  have hB : tot p (cutB k s) = cnt (fun x => p x && out1 k x) (min s.f1 (max s.f0 k.f5)) s.f1 := by
    unfold cutB
    by_cases h : k.f5 < s.f1
    · rw [if_pos h]
      have e : (if s.f0 > k.f5 then s.f0 else k.f5) = min s.f1 (max s.f0 k.f5) := by split <;> omega
      show cnt p (if s.f0 > k.f5 then s.f0 else k.f5) s.f1 + 0 = _
      rw [e, Int.add_zero]
      exact cnt_congr fun x h1 h2 => by rw [out1_true (.inr (by omega)), Bool.and_true]
    · rw [if_neg h, cnt_empty _ (by omega)]
      rfl
  rw [hA, hB, cnt_split _ (show s.f0 ≤ max s.f0 (min s.f1 k.f4) by omega) (show max s.f0 (min s.f1 k.f4) ≤ s.f1 by omega), cnt_split _ (show max s.f0 (min s.f1 k.f4) ≤ min s.f1 (max s.f0 k.f5) by omega) (show min s.f1 (max s.f0 k.f5) ≤ s.f1 by omega),
    cnt_none (a := max s.f0 (min s.f1 k.f4)) (b := min s.f1 (max s.f0 k.f5)) (fun x h1 h2 => by rw [out1_false (by omega), Bool.and_false])]
  omega
theorem tot_app (p : Int → Bool) (a b : List SS) : tot p (a ++ b) = tot p a + tot p b := by
  induction a with
  | nil => simp [tot]
  | cons x r ih => simp only [List.cons_append, tot, ih]; omega
theorem cut_tot (k : SC) (hk : k.f4 ≤ k.f5) (p : Int → Bool) : ∀ (l : List SS), (∀ s ∈ l, s.f0 ≤ s.f1) → tot p (cutL k l) = tot (fun x => p x && out1 k x) l
  | [], _ => rfl
  | s :: r, h => by
    rw [cutL, tot_app, cut_one k hk p s (h s (List.mem_cons_self ..)), cut_tot k hk p r (fun q hq => h q (List.mem_cons_of_mem _ hq))]
    rfl
theorem cut_rise1 (k : SC) (hk : k.f4 ≤ k.f5) (s : SS) (hi : Int) (r : List SS) (hs : s.f0 ≤ s.f1) (hr : Rise s.f1 hi r) : Rise s.f0 hi (cut1 k s ++ r) := by
  unfold cut1 cutA cutB
  by_cases h1 : k.f4 > s.f0
  · rw [if_pos h1]
    by_cases h2 : k.f5 < s.f1
    · rw [if_pos h2]
      refine ⟨Int.le_refl _, ?_, ?_, ?_, hr⟩
      · show s.f0 ≤ (if s.f1 < k.f4 then s.f1 else k.f4)
        split <;> omega
      · show (if s.f1 < k.f4 then s.f1 else k.f4) ≤ (if s.f0 > k.f5 then s.f0 else k.f5)
        (repeat' split) <;> omega
      · show (if s.f0 > k.f5 then s.f0 else k.f5) ≤ s.f1
        split <;> omega
    · rw [if_neg h2]
      refine ⟨Int.le_refl _, ?_, hr.lower ?_⟩
      · show s.f0 ≤ (if s.f1 < k.f4 then s.f1 else k.f4)
        split <;> omega
      · show (if s.f1 < k.f4 then s.f1 else k.f4) ≤ s.f1
        split <;> omega
  · rw [if_neg h1]
    by_cases h2 : k.f5 < s.f1
    · rw [if_pos h2]
      refine ⟨?_, ?_, hr⟩
      · show s.f0 ≤ (if s.f0 > k.f5 then s.f0 else k.f5)
        split <;> omega
      · show (if s.f0 > k.f5 then s.f0 else k.f5) ≤ s.f1
        split <;> omega
    · rw [if_neg h2]
      exact hr.lower hs
theorem cut_rise (k : SC) (hk : k.f4 ≤ k.f5) : ∀ (l : List SS) (lo hi : Int), Rise lo hi l → Rise lo hi (cutL k l)
  | [], _, _, h => h
  | s :: r, lo, hi, h => (cut_rise1 k hk s hi _ h.2.1 (cut_rise k hk r s.f1 hi h.2.2)).lower h.1
/-- Behind a call's end each span stays one. -/
theorem cut_far (k : SC) (hk : k.f4 ≤ k.f5) : ∀ (l : List SS) (lo hi : Int), Rise lo hi l → k.f4 ≤ lo → (cutL k l).length ≤ l.length
  | [], _, _, _, _ => Nat.le_refl _
  | s :: r, lo, hi, h, hlo => by
    have ih := cut_far k hk r s.f1 hi h.2.2 (by have := h.1; have := h.2.1; omega)
    have h1 : cutA k s = [] := by unfold cutA; rw [if_neg (by have := h.1; omega)]
    have h2 : (cutB k s).length ≤ 1 := by unfold cutB; split <;> simp
    simp only [cutL, cut1, h1, List.nil_append, List.length_append, List.length_cons]
    omega
theorem cut_len (k : SC) (hk : k.f4 ≤ k.f5) : ∀ (l : List SS) (lo hi : Int), Rise lo hi l → (cutL k l).length ≤ l.length + 1
  | [], _, _, _ => Nat.zero_le _
  | s :: r, lo, hi, h => by
    have hA : (cutA k s).length ≤ 1 := by unfold cutA; split <;> simp
    have hB : (cutB k s).length ≤ 1 := by unfold cutB; split <;> simp
    simp only [cutL, cut1, List.length_append, List.length_cons]
    by_cases hb : k.f5 < s.f1
    · have := cut_far k hk r s.f1 hi h.2.2 (by omega)
      omega
    · have h2 : cutB k s = [] := by unfold cutB; rw [if_neg hb]
      have := cut_len k hk r s.f1 hi h.2.2
      rw [h2, List.length_nil]
      omega
theorem cutAll_rise : ∀ (ks : List SC) (l : List SS) (lo hi : Int), (∀ k ∈ ks, k.f4 ≤ k.f5) → Rise lo hi l → Rise lo hi (cutAll ks l) ∧ (cutAll ks l).length ≤ l.length + ks.length
  | [], l, lo, hi, _, h => ⟨h, Nat.le_refl _⟩
  | k :: ks, l, lo, hi, hk, h => by
    have hk0 := hk k (List.mem_cons_self ..)
    have h1 := cutAll_rise ks (cutL k l) lo hi (fun q hq => hk q (List.mem_cons_of_mem _ hq)) (cut_rise k hk0 l lo hi h)
    have h2 := cut_len k hk0 l lo hi h
    exact ⟨h1.1, by have := h1.2; simp only [cutAll, List.length_cons]; omega⟩
theorem tot_congr {p q : Int → Bool} (h : ∀ x, p x = q x) (l : List SS) : tot p l = tot q l := by
  have : p = q := funext h
  rw [this]
theorem cutAll_tot : ∀ (ks : List SC) (l : List SS) (lo hi : Int) (p : Int → Bool), (∀ k ∈ ks, k.f4 ≤ k.f5) → Rise lo hi l → tot p (cutAll ks l) = tot (fun x => p x && freeB ks x) l
  | [], l, _, _, p, _, _ => tot_congr (fun x => by simp [freeB]) l
  | k :: ks, l, lo, hi, p, hk, h => by
    have hk0 := hk k (List.mem_cons_self ..)
    rw [cutAll, cutAll_tot ks (cutL k l) lo hi p (fun q hq => hk q (List.mem_cons_of_mem _ hq)) (cut_rise k hk0 l lo hi h), cut_tot k hk0 _ l (fun s hs => (h.bounds s hs).2.1)]
    refine tot_congr (fun x => ?_) l
    show ((p x && freeB ks x) && out1 k x) = (p x && freeB (k :: ks) x)
    have e : freeB (k :: ks) x = (out1 k x && freeB ks x) := by unfold freeB; rw [List.all_cons]
    rw [e]
    cases p x <;> cases freeB ks x <;> cases out1 k x <;> rfl
/-- The lengths of the spans that are left. -/
def lens : List SS → Int
  | [] => 0
  | s :: r => (s.f1 - s.f0) + lens r
theorem lens_tot : ∀ (l : List SS) (lo hi : Int), Rise lo hi l → lens l = tot (fun _ => true) l
  | [], _, _, _ => rfl
  | s :: r, lo, hi, h => by
    rw [lens, tot, lens_tot r s.f1 hi h.2.2, cnt_all h.2.1 (fun _ _ _ => rfl)]
theorem lens_le : ∀ (l : List SS) (lo hi : Int), Rise lo hi l → 0 ≤ lens l ∧ lens l ≤ hi - lo
  | [], lo, hi, h => by have h' : lo ≤ hi := h; simp only [lens]; omega
  | s :: r, lo, hi, h => by
    have h1 := lens_le r s.f1 hi h.2.2
    have := h.1
    have := h.2.1
    simp only [lens]
    omega
theorem lens_self (x : SC) (ks : List SC) (hx : x.f4 ≤ x.f5) (hk : ∀ k ∈ ks, k.f4 ≤ k.f5) : lens (cutAll ks [⟨x.f4, x.f5⟩]) = selfM x ks := by
  have hr : Rise x.f4 x.f5 [(⟨x.f4, x.f5⟩ : SS)] := ⟨Int.le_refl _, hx, Int.le_refl x.f5⟩
  rw [lens_tot _ _ _ (cutAll_rise ks _ _ _ hk hr).1, cutAll_tot ks _ _ _ _ hk hr]
  show cnt _ x.f4 x.f5 + 0 = _
  rw [Int.add_zero]
  exact cnt_congr fun p _ _ => by simp
end Go.Proofs.Ytkehglgehbfcmaa.PFnExactSelfTimes
