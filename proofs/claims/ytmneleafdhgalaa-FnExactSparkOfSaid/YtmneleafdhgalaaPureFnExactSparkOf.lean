/- The program's SparkOf returns what the reference's returns, for every list of integers. No further condition. -/
import Derived.Test.YtmneleafdhgalaaPFnExactSparkOfx2
import Derived.Lib.Slices
namespace Go.Proofs.Ytmneleafdhgalaa.Pure
open Go.RowKit Go.Proofs.Ytmneleafdhgalaa.PFnExactSparkOf Go.Proofs.YtmneleafdhgalaaW.PrintWords Go.Proofs.YtmneleafdhgalaaW.PrintLast

theorem w64 {x : Int} (h0 : -9223372036854775808 ≤ x) (h1 : x ≤ 9223372036854775807) : wrap64 x = x := by
  unfold wrap64
  omega

theorem loops_same : ∀ (k : Nat) (a b : Int) (acc l : List Int) (n i : Int), spec_SparkOf.l1 k a b acc l n i = impl_SparkOf.l0 k a b acc l n i
  | 0, _, _, _, _, _, _ => by simp only [spec_SparkOf.l1, impl_SparkOf.l0]
  | k + 1, a, b, acc, l, n, i => by simp only [spec_SparkOf.l1, impl_SparkOf.l0, loops_same k]

theorem j_same (k : Nat) (l : List Int) (a b : Int) (c : Bool) : spec_SparkOf.j2 k l a b c = impl_SparkOf.j1 k l a b c := by
  cases k with
  | zero => simp only [spec_SparkOf.j2, impl_SparkOf.j1]
  | succ k => simp only [spec_SparkOf.j2, impl_SparkOf.j1, loops_same]

/-- What follows the search for the least and the greatest. -/
def fin (l : List Int) (lo hi : Int) (k : Nat) : Option ByteArray :=
  if wrap64 (hi - lo) < 0 then impl_SparkOf.j1 k l lo (wrap64 (hi - lo)) true else impl_SparkOf.j1 k l lo (wrap64 (hi - lo)) (decide (wrap64 (hi - lo) > 1000000000000000))

theorem rd_at (l : List Int) (i : Nat) (h : i < l.length) : rd l (i : Int) = l[i] := by
  unfold rd
  rw [Int.toNat_natCast, List.getD_eq_getElem?_getD, List.getElem?_eq_getElem h]
  rfl

theorem search (l : List Int) (hl : l.length ≤ 1048576) : ∀ (d i : Nat) (lo hi : Int) (r : ByteArray), i + d = l.length → Ev (fin l ((l.drop i).foldl min lo) ((l.drop i).foldl max hi)) r → Ev (fun k => spec_SparkOf.l0 k l lo hi l (l.length : Int) (i : Int)) r := by
  intro d
  induction d with
  | zero =>
    intro i lo hi r h hr
    rw [List.drop_of_length_le (by omega)] at hr
    refine Ev.step (f := fin l lo hi) (fun k => ?_) hr
    simp only [spec_SparkOf.l0]
    rw [if_neg (by omega)]
    unfold fin
    simp only [j_same]
  | succ d ih =>
    intro i lo hi r h hr
    have e : wrap64 ((i : Int) + 1) = ((i + 1 : Nat) : Int) := by rw [w64 (by omega) (by omega)]; omega
    rw [List.drop_eq_getElem_cons (show i < l.length by omega)] at hr
    simp only [List.foldl_cons] at hr
    refine Ev.step (f := fun k => spec_SparkOf.l0 k l (min lo (l[i]'(by omega))) (max hi (l[i]'(by omega))) l (l.length : Int) ((i + 1 : Nat) : Int)) (fun k => ?_) (ih (i + 1) _ _ r (by omega) hr)
    simp only [spec_SparkOf.l0]
    rw [if_pos (by omega), if_pos (by omega), if_pos (by omega), e, rd_at l i (by omega)]
    generalize l[i]'(show i < l.length by omega) = v
    by_cases h1 : v < lo
    · rw [if_pos h1, show min lo v = v by omega]
      by_cases h2 : v > hi
      · rw [if_pos h2, show max hi v = v by omega]
      · rw [if_neg h2, show max hi v = hi by omega]
    · rw [if_neg h1, show min lo v = lo by omega]
      by_cases h2 : v > hi
      · rw [if_pos h2, show max hi v = v by omega]
      · rw [if_neg h2, show max hi v = hi by omega]

theorem fold_min (l : List Int) : ∀ lo, l.foldl min lo ≤ lo ∧ ∀ x ∈ l, l.foldl min lo ≤ x := by
  induction l with
  | nil => intro lo; exact ⟨Int.le_refl _, fun x hx => by cases hx⟩
  | cons y l ih =>
    intro lo
    have h := ih (min lo y)
    simp only [List.foldl_cons]
    refine ⟨by omega, fun x hx => ?_⟩
    rcases List.mem_cons.1 hx with rfl | hx
    · omega
    · exact h.2 x hx
theorem fold_max (l : List Int) : ∀ hi, hi ≤ l.foldl max hi ∧ ∀ x ∈ l, x ≤ l.foldl max hi := by
  induction l with
  | nil => intro hi; exact ⟨Int.le_refl _, fun x hx => by cases hx⟩
  | cons y l ih =>
    intro hi
    have h := ih (max hi y)
    simp only [List.foldl_cons]
    refine ⟨by omega, fun x hx => ?_⟩
    rcases List.mem_cons.1 hx with rfl | hx
    · omega
    · exact h.2 x hx
theorem fold_range (l : List Int) (f : Int → Int → Int) (hf : ∀ a b, f a b = a ∨ f a b = b) (P : Int → Prop) : ∀ a, P a → (∀ x ∈ l, P x) → P (l.foldl f a) := by
  induction l with
  | nil => intro a h _; exact h
  | cons y l ih =>
    intro a h hl
    refine ih _ ?_ (fun x hx => hl x (List.mem_cons_of_mem _ hx))
    rcases hf a y with e | e <;> rw [e]
    · exact h
    · exact hl y List.mem_cons_self

theorem draws (l : List Int) (hl : l.length ≤ 1048576) (lo sp : Int) (h0 : 0 ≤ sp) (h1 : sp ≤ 1000000000000000) (_ : -9223372036854775808 ≤ lo ∧ lo ≤ 9223372036854775807) (hv : ∀ x ∈ l, lo ≤ x ∧ x - lo ≤ sp) :
    ∀ (d i : Nat) (acc : List Int), i + d = l.length → acc.length = i → ∃ r, Ev (fun k => impl_SparkOf.l0 k lo sp acc l (l.length : Int) (i : Int)) r := by
  intro d
  induction d with
  | zero =>
    intro i acc h ha
    refine ⟨_, Ev.step (f := fun _ => some (strOfNums acc)) (fun k => ?_) (Ev.now _)⟩
    simp only [impl_SparkOf.l0]
    rw [if_neg (by omega)]
  | succ d ih =>
    intro i acc h ha
    have e : wrap64 ((i : Int) + 1) = ((i + 1 : Nat) : Int) := by rw [w64 (by omega) (by omega)]; omega
    have hm := hv (l[i]'(by omega)) (List.getElem_mem _)
    by_cases hs : sp > 0
    · have hb : 0 ≤ Int.tdiv ((l[i]'(by omega) - lo) * 7) sp ∧ Int.tdiv ((l[i]'(by omega) - lo) * 7) sp < 8 := by
        have hy : 0 ≤ l[i]'(by omega) - lo := by omega
        generalize (l[i]'(show i < l.length by omega)) - lo = y at hm hy ⊢
        rw [Int.tdiv_eq_ediv_of_nonneg (by omega)]
        exact ⟨Int.ediv_nonneg (by omega) (by omega), Int.ediv_lt_of_lt_mul hs (by omega)⟩
      have eq : wrap64 (Int.tdiv (wrap64 (wrap64 (rd l (i : Int) - lo) * 7)) sp) = Int.tdiv ((l[i]'(by omega) - lo) * 7) sp := by
        rw [rd_at l i (by omega), w64 (x := l[i]'(by omega) - lo) (by omega) (by omega), w64 (x := (l[i]'(by omega) - lo) * 7) (by omega) (by omega), w64 (by omega) (by omega)]
      obtain ⟨r, hr⟩ := ih (i + 1) (acc ++ [bt (⟨#[95, 46, 45, 58, 61, 43, 42, 35]⟩ : ByteArray) (Int.tdiv ((l[i]'(by omega) - lo) * 7) sp)]) (by omega) (by simp [ha])
      refine ⟨r, Ev.step (f := fun k => impl_SparkOf.l0 k lo sp (acc ++ [bt (⟨#[95, 46, 45, 58, 61, 43, 42, 35]⟩ : ByteArray) (Int.tdiv ((l[i]'(by omega) - lo) * 7) sp)]) l (l.length : Int) ((i + 1 : Nat) : Int)) (fun k => ?_) hr⟩
      simp only [impl_SparkOf.l0]
      rw [if_pos (by omega), if_pos (by omega), if_pos (by omega), if_pos hs, if_neg (by omega), eq, if_pos hb.1, if_pos hb.2, if_pos (by omega), e]
    · obtain ⟨r, hr⟩ := ih (i + 1) (acc ++ [bt (⟨#[95, 46, 45, 58, 61, 43, 42, 35]⟩ : ByteArray) 0]) (by omega) (by simp [ha])
      refine ⟨r, Ev.step (f := fun k => impl_SparkOf.l0 k lo sp (acc ++ [bt (⟨#[95, 46, 45, 58, 61, 43, 42, 35]⟩ : ByteArray) 0]) l (l.length : Int) ((i + 1 : Nat) : Int)) (fun k => ?_) hr⟩
      simp only [impl_SparkOf.l0]
      rw [if_pos (by omega), if_pos (by omega), if_pos (by omega), if_neg hs, if_pos (by omega), if_pos (by omega), e]

theorem fin_some (l : List Int) (hl : l.length ≤ 1048576) (lo hi : Int) (hlo : -9223372036854775808 ≤ lo ∧ lo ≤ 9223372036854775807) (hhi : -9223372036854775808 ≤ hi ∧ hi ≤ 9223372036854775807) (hv : ∀ x ∈ l, lo ≤ x ∧ x ≤ hi) : ∃ r, Ev (fin l lo hi) r := by
  have yes : ∃ r, Ev (fun k => impl_SparkOf.j1 k l lo (wrap64 (hi - lo)) true) r := ⟨_, Ev.step (f := fun _ => some ⟨#[]⟩) (fun k => by simp [impl_SparkOf.j1]) (Ev.now _)⟩
  unfold fin
  by_cases h : wrap64 (hi - lo) < 0
  · simp only [if_pos h]
    exact yes
  · simp only [if_neg h]
    by_cases h2 : wrap64 (hi - lo) > 1000000000000000
    · simp only [decide_eq_true h2]
      exact yes
    · simp only [decide_eq_false h2]
      cases l with
      | nil => exact ⟨_, Ev.step (f := fun k => impl_SparkOf.l0 k lo (wrap64 (hi - lo)) [] [] 0 0) (fun k => by simp [impl_SparkOf.j1]) (Ev.step (f := fun _ => some (strOfNums [])) (fun k => by simp [impl_SparkOf.l0]) (Ev.now _))⟩
      | cons y l =>
        have hy := hv y List.mem_cons_self
        have e : wrap64 (hi - lo) = hi - lo ∨ hi - lo > 9223372036854775807 := by
          by_cases hb : hi - lo > 9223372036854775807
          · exact .inr hb
          · exact .inl (w64 (by omega) (by omega))
        have e' : wrap64 (hi - lo) = hi - lo := by
          rcases e with e | e
          · exact e
          · exfalso
            have : wrap64 (hi - lo) < 0 := by unfold wrap64; omega
            exact h this
        rw [e'] at h h2 ⊢
        obtain ⟨r, hr⟩ := draws (y :: l) hl lo (hi - lo) (by omega) (by omega) hlo (fun x hx => by have := hv x hx; omega) (y :: l).length 0 [] (by omega) rfl
        exact ⟨r, Ev.step (f := fun k => impl_SparkOf.l0 k lo (hi - lo) [] (y :: l) ((y :: l).length : Int) 0) (fun k => by simp [impl_SparkOf.j1]) hr⟩

theorem both (l : List Int) (hl : l.length ≤ 1048576) (hw : ∀ x ∈ l, -9223372036854775808 ≤ x ∧ x ≤ 9223372036854775807) : ∃ r, Ev (fun k => spec_SparkOf.f k l) r ∧ Ev (fun k => impl_SparkOf.f k l) r := by
  unfold spec_SparkOf.f impl_SparkOf.f
  have s1 : Ev (fun k => spec_SparkOf.j0 k l true) ⟨#[]⟩ := Ev.step (f := fun _ => some ⟨#[]⟩) (fun k => by simp [spec_SparkOf.j0]) (Ev.now _)
  have i1 : Ev (fun k => impl_SparkOf.j0 k l true) ⟨#[]⟩ := Ev.step (f := fun _ => some ⟨#[]⟩) (fun k => by simp [impl_SparkOf.j0]) (Ev.now _)
  by_cases h0 : (l.length : Int) = 0
  · simp only [if_pos h0]
    exact ⟨_, s1, i1⟩
  · simp only [if_neg h0]
    by_cases h5 : (l.length : Int) > 500
    · simp only [decide_eq_true h5]
      exact ⟨_, s1, i1⟩
    · simp only [decide_eq_false h5]
      cases l with
      | nil => simp at h0
      | cons y l =>
        have hmin := fold_min (y :: l) y
        have hmax := fold_max (y :: l) y
        have hy := hw y List.mem_cons_self
        have rmin := fold_range (y :: l) min (fun a b => by omega) (fun x => -9223372036854775808 ≤ x ∧ x ≤ 9223372036854775807) y hy hw
        have rmax := fold_range (y :: l) max (fun a b => by omega) (fun x => -9223372036854775808 ≤ x ∧ x ≤ 9223372036854775807) y hy hw
        obtain ⟨r, hr⟩ := fin_some (y :: l) hl _ _ rmin rmax (fun x hx => ⟨hmin.2 x hx, hmax.2 x hx⟩)
        refine ⟨r, ?_, ?_⟩
        · have hs := search (y :: l) hl (y :: l).length 0 y y r (by omega) hr
          refine Ev.step (f := fun k => spec_SparkOf.l0 k (y :: l) y y (y :: l) ((y :: l).length : Int) 0) (fun k => ?_) hs
          simp only [spec_SparkOf.j0]
          rw [if_neg (by decide), if_pos (by simp)]
          rfl
        · refine Ev.step (f := fin (y :: l) ((y :: l).foldl min y) ((y :: l).foldl max y)) (fun k => ?_) hr
          simp only [impl_SparkOf.j0, slices_Min_int_int.f, slices_Max_int_int.f]
          rw [if_neg (by decide), if_pos (by simp), if_pos (by simp)]
          rfl

theorem copy_loop (l : List Int) (hl : l.length ≤ 1048576) : ∀ (d i : Nat) (acc : List Int), i + d = l.length → acc.length = l.length → acc.take i = l.take i → Ev (fun k => laws_toIntS.l0 k l acc (i : Int)) l := by
  intro d
  induction d with
  | zero =>
    intro i acc h ha ht
    have : acc = l := by
      have h1 : i = l.length := by omega
      subst h1
      rw [List.take_of_length_le (by omega), List.take_of_length_le (by omega)] at ht
      exact ht
    refine Ev.step (f := fun _ => some acc) (fun k => ?_) (by rw [this]; exact Ev.now _)
    simp only [laws_toIntS.l0]
    rw [if_neg (by omega)]
  | succ d ih =>
    intro i acc h ha ht
    have e : wrap64 ((i : Int) + 1) = ((i + 1 : Nat) : Int) := by rw [w64 (by omega) (by omega)]; omega
    refine Ev.step (f := fun k => laws_toIntS.l0 k l (acc.set i (l[i]'(by omega))) ((i + 1 : Nat) : Int)) (fun k => ?_) (ih (i + 1) (acc.set i (l[i]'(by omega))) (by omega) (by rw [List.length_set]; exact ha) ?_)
    · simp only [laws_toIntS.l0]
      rw [if_pos (by omega), if_pos (by omega), if_pos (by omega), e, rd_at l i (by omega), show (i : Int).toNat = i from by omega]
    · rw [List.take_succ_eq_append_getElem (by rw [List.length_set]; omega), List.take_succ_eq_append_getElem (by omega), List.getElem_set_self, List.take_set_of_le (Nat.le_refl _), ht]

theorem copy_ev (l : List Int) (hl : l.length ≤ 1048576) : Ev (fun k => laws_toIntS.f k l) l := by
  unfold laws_toIntS.f
  simp only [if_pos (show 0 ≤ (l.length : Int) by omega), if_pos (show (l.length : Int).toNat ≤ 35184372088832 by omega)]
  exact copy_loop l hl l.length 0 _ (by omega) (by simp) (by simp)

theorem eq_loop (l : List Int) (hl : l.length ≤ 1048576) : ∀ (d i : Nat), i + d = l.length → Ev (fun k => laws_eqIntS.l0 k l l (i : Int)) true := by
  intro d
  induction d with
  | zero =>
    intro i h
    refine Ev.step (f := fun _ => some true) (fun k => ?_) (Ev.now _)
    simp only [laws_eqIntS.l0]
    rw [if_neg (by omega)]
  | succ d ih =>
    intro i h
    have e : wrap64 ((i : Int) + 1) = ((i + 1 : Nat) : Int) := by rw [w64 (by omega) (by omega)]; omega
    refine Ev.step (f := fun k => laws_eqIntS.l0 k l l ((i + 1 : Nat) : Int)) (fun k => ?_) (ih (i + 1) (by omega))
    simp only [laws_eqIntS.l0]
    rw [if_pos (by omega), if_pos (by omega), if_pos (by omega), e]
    rfl

theorem eq_ev (l : List Int) (hl : l.length ≤ 1048576) : Ev (fun k => laws_eqIntS.f k l l) true := by
  unfold laws_eqIntS.f
  simp only [if_true]
  exact eq_loop l hl l.length 0 (by omega)

theorem FnExactSparkOf : laws_FnExactSparkOf.Pure := by
  intro l _ _ hw
  refine Ev.rounds (?_ : Ev (fun k => laws_FnExactSparkOf.f k l) true)
  unfold laws_FnExactSparkOf.f
  by_cases h : (l.length : Int) > 1048576
  · simp only [if_pos h]
    exact Ev.now _
  · simp only [if_neg h]
    have hl : l.length ≤ 1048576 := by omega
    have hw' : ∀ x ∈ l, -9223372036854775808 ≤ x ∧ x ≤ 9223372036854775807 := fun x hx => by
      have := hw x hx
      simpa [Lit.wf, IntKind.min, IntKind.max, IntKind.signed, IntKind.bits] using this
    obtain ⟨r, h1, h2⟩ := both l hl hw'
    refine Ev.bind (copy_ev l hl) (Ev.bind h1 (Ev.bind (copy_ev l hl) (Ev.bind h2 ?_)))
    simp only [if_true]
    refine Ev.bind (copy_ev l hl) (Ev.bind (eq_ev l hl) ?_)
    simpa using Ev.now true

end Go.Proofs.Ytmneleafdhgalaa.Pure
