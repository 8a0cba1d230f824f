/- What the functions on words of the questions' language compute, the program's and the reference's alike. -/
import Derived.Test.YtjpgflljnljpgaaAFnExactGoodGoal
import Derived.Test.YtjpgflljnljpgaaPFnExactGoodGoalx2
import Derived.Test.YtjpgflljnljpgaaPFnExactGoodGoalx6
namespace Go.Proofs.Ytjpgflljnljpgaa.WrdFnExactGoodGoal
open Go.RowKit Go.Proofs.Ytjpgflljnljpgaa.PFnExactGoodGoal Go.Proofs.YtjpgflljnljpgaaW.PrintWords Go.Proofs.YtjpgflljnljpgaaW.PrintLast Go.Proofs.Ytjpgflljnljpgaa.Evs Go.Proofs.Ytjpgflljnljpgaa.AFnExactGoodGoal
set_option linter.unusedVariables false
def hasB (L : List ByteArray) (s : ByteArray) : Bool := L.any (fun y => decide (y.toList = s.toList))
theorem specHas_loop (L : List ByteArray) (hl : L.length ≤ 1048576) (s : ByteArray) : ∀ (d i : Nat), i + d = L.length → EvP (fun k => spec_l2Has.l0 k s L (L.length : Int) (i : Int)) (fun r => r = hasB (L.drop i) s) := by
  intro d
  induction d with
  | zero =>
    intro i h
    refine EvP.step ?_
    simp only [spec_l2Has.l0]
    refine EvP.neg (by omega) (EvP.now ?_)
    rw [List.drop_of_length_le (by omega)]; rfl
  | succ d ih =>
    intro i h
    have hi : i < L.length := by omega
    have hn := ih (i + 1) (by omega)
    refine EvP.step ?_
    simp only [spec_l2Has.l0, wrap_succ hi hl, rdOf_get _ L i hi]
    rw [List.drop_eq_getElem_cons hi, show hasB (L[i] :: L.drop (i + 1)) s = (decide (L[i].toList = s.toList) || hasB (L.drop (i + 1)) s) from rfl]
    refine EvP.pos (by omega) (EvP.pos (by omega) (EvP.pos (by omega) (EvP.ite (fun h1 => EvP.now (by rw [decide_eq_true h1]; rfl)) (fun h1 => ?_))))
    rw [decide_eq_false h1, Bool.false_or]
    exact hn
theorem specHas_ev (L : List ByteArray) (hl : L.length ≤ 1048576) (s : ByteArray) : EvP (fun k => spec_l2Has.f k L s) (fun r => r = hasB L s) := by
  unfold spec_l2Has.f
  exact specHas_loop L hl s L.length 0 (by omega)
theorem index_loop (L : List ByteArray) (hl : L.length ≤ 1048576) (s : ByteArray) : ∀ (d i : Nat), i + d = L.length → EvP (fun k => slices_Index_string_string.l0 k L s (L.length : Int) (i : Int)) (fun r => decide (r ≥ 0) = hasB (L.drop i) s) := by
  intro d
  induction d with
  | zero =>
    intro i h
    refine EvP.step ?_
    simp only [slices_Index_string_string.l0]
    refine EvP.neg (by omega) (EvP.now ?_)
    rw [List.drop_of_length_le (by omega)]; rfl
  | succ d ih =>
    intro i h
    have hi : i < L.length := by omega
    have hn := ih (i + 1) (by omega)
    refine EvP.step ?_
    simp only [slices_Index_string_string.l0, wrap_succ hi hl, rdOf_get _ L i hi]
    rw [List.drop_eq_getElem_cons hi, show hasB (L[i] :: L.drop (i + 1)) s = (decide (L[i].toList = s.toList) || hasB (L.drop (i + 1)) s) from rfl]
    refine EvP.pos (by omega) (EvP.pos (by omega) (EvP.pos (by omega) (EvP.ite (fun h1 => EvP.now (by rw [decide_eq_true h1.symm, decide_eq_true (by omega)]; rfl)) (fun h1 => ?_))))
    rw [decide_eq_false (fun h2 => h1 h2.symm), Bool.false_or]
    exact hn
theorem contains_ev (L : List ByteArray) (hl : L.length ≤ 1048576) (s : ByteArray) : EvP (fun k => slices_Contains_string_string.f k L s) (fun r => r = hasB L s) := by
  unfold slices_Contains_string_string.f slices_Index_string_string.f
  exact EvP.bind (index_loop L hl s L.length 0 (by omega)) (fun t e => EvP.now e)
theorem has_mem (L : List ByteArray) (s : ByteArray) : hasB L s = decide (s.data.toList ∈ L.map (fun y => y.data.toList)) := by
  unfold hasB
  rw [Bool.eq_iff_iff, List.any_eq_true, decide_eq_true_iff, List.mem_map]
  constructor
  · rintro ⟨y, hy, h⟩
    exact ⟨y, hy, by have := of_decide_eq_true h; rwa [Lib.toList_data, Lib.toList_data] at this⟩
  · rintro ⟨y, hy, h⟩
    exact ⟨y, hy, decide_eq_true (by rw [Lib.toList_data, Lib.toList_data]; exact h)⟩
def LA : List ByteArray := ([(⟨#[97, 110, 100]⟩ : ByteArray), (⟨#[98, 111, 111, 108]⟩ : ByteArray), (⟨#[98, 121]⟩ : ByteArray), (⟨#[103, 114, 111, 117, 112, 95, 108, 101, 102, 116]⟩ : ByteArray), (⟨#[103, 114, 111, 117, 112, 95, 114, 105, 103, 104, 116]⟩ : ByteArray), (⟨#[105, 103, 110, 111, 114, 105, 110, 103]⟩ : ByteArray), (⟨#[111, 102, 102, 115, 101, 116]⟩ : ByteArray), (⟨#[111, 110]⟩ : ByteArray), (⟨#[111, 114]⟩ : ByteArray), (⟨#[117, 110, 108, 101, 115, 115]⟩ : ByteArray), (⟨#[119, 105, 116, 104, 111, 117, 116]⟩ : ByteArray)] : List ByteArray)
def LB : List ByteArray := ([(⟨#[97, 110, 100]⟩ : ByteArray), (⟨#[97, 118, 103]⟩ : ByteArray), (⟨#[98, 111, 111, 108]⟩ : ByteArray), (⟨#[98, 111, 116, 116, 111, 109, 107]⟩ : ByteArray), (⟨#[98, 121]⟩ : ByteArray), (⟨#[99, 111, 117, 110, 116]⟩ : ByteArray), (⟨#[103, 114, 111, 117, 112, 95, 108, 101, 102, 116]⟩ : ByteArray), (⟨#[103, 114, 111, 117, 112, 95, 114, 105, 103, 104, 116]⟩ : ByteArray), (⟨#[105, 103, 110, 111, 114, 105, 110, 103]⟩ : ByteArray), (⟨#[109, 97, 120]⟩ : ByteArray), (⟨#[109, 105, 110]⟩ : ByteArray), (⟨#[111, 102, 102, 115, 101, 116]⟩ : ByteArray), (⟨#[111, 110]⟩ : ByteArray), (⟨#[111, 114]⟩ : ByteArray), (⟨#[113, 117, 97, 110, 116, 105, 108, 101]⟩ : ByteArray), (⟨#[115, 117, 109]⟩ : ByteArray), (⟨#[116, 111, 112, 107]⟩ : ByteArray), (⟨#[117, 110, 108, 101, 115, 115]⟩ : ByteArray), (⟨#[119, 105, 116, 104, 111, 117, 116]⟩ : ByteArray)] : List ByteArray)
def FL : List ByteArray := impl_Functions.f.getD []
def AG : List ByteArray := spec_l15Aggs.f.getD []
theorem mem_both {α : Type} {A B : List α} (u : α) (h1 : ∀ x ∈ A, x ∈ B) (h2 : ∀ x ∈ B, x ∈ A) : u ∈ A ↔ u ∈ B := ⟨h1 u, h2 u⟩
theorem words_eq (s : ByteArray) : (if s.toList = [] then hasB LA s else (hasB AG s || hasB LA s)) = hasB LB s := by
  rw [Lib.toList_data, has_mem, has_mem, has_mem]
  generalize s.data.toList = u
  by_cases h : u = []
  · subst h
    decide +kernel
  · rw [if_neg h, ← Bool.decide_or]
    refine decide_eq_decide.2 ?_
    rw [← List.mem_append]
    have hA : (AG.map (fun y => y.data.toList) ++ LA.map (fun y => y.data.toList)) = [] :: (AG.tail.map (fun y => y.data.toList) ++ LA.map (fun y => y.data.toList)) := by decide +kernel
    rw [hA, List.mem_cons, or_iff_right h]
    exact mem_both u (by decide +kernel) (by decide +kernel)
def wordB (s : ByteArray) : Bool := hasB FL s || hasB LB s
theorem specWord_ev (s : ByteArray) : EvP (fun k => spec_l15Word.f k s) (fun r => r = wordB s) := by
  unfold spec_l15Word.f wordB
  rw [← words_eq]
  refine EvP.bind (P := fun r => r = FL) (EvP.now rfl) (fun t e => ?_)
  subst e
  refine EvP.bind (specHas_ev FL (by decide +kernel) s) (fun t e => ?_)
  subst e
  cases hasB FL s with
  | true => exact EvP.pos rfl (EvP.now rfl)
  | false =>
    refine EvP.neg (by decide) ?_
    rw [Bool.false_or]
    refine EvP.ite (fun h => ?_) (fun h => ?_)
    · rw [if_pos h]
      exact EvP.bind (specHas_ev LA (by decide +kernel) s) (fun t e => EvP.now e)
    · rw [if_neg h]
      refine EvP.bind (P := fun r => r = AG) (EvP.now rfl) (fun t e => ?_)
      subst e
      refine EvP.bind (specHas_ev AG (by decide +kernel) s) (fun t e => ?_)
      subst e
      cases hasB AG s with
      | true => exact EvP.pos rfl (EvP.now rfl)
      | false => exact EvP.neg (by decide) (EvP.bind (specHas_ev LA (by decide +kernel) s) (fun t e => EvP.now (by rw [e]; rfl)))
theorem implWord_ev (s : ByteArray) : EvP (fun k => impl_isWord.f k s) (fun r => r = wordB s) := by
  unfold impl_isWord.f wordB impl_isFunction.f
  refine EvP.bind (P := fun r => r = hasB FL s) ?_ (fun t e => ?_)
  · refine EvP.bind (P := fun r => r = FL) (EvP.now rfl) (fun t e => ?_)
    subst e
    exact EvP.bind (contains_ev FL (by decide +kernel) s) (fun t e => EvP.now e)
  subst e
  cases hasB FL s with
  | true => exact EvP.pos rfl (EvP.now rfl)
  | false => exact EvP.neg (by decide) (EvP.bind (contains_ev LB (by decide +kernel) s) (fun t e => EvP.now (by rw [e]; rfl)))
def metricB (s : ByteArray) : Bool := nameB s && !wordB s
end Go.Proofs.Ytjpgflljnljpgaa.WrdFnExactGoodGoal
