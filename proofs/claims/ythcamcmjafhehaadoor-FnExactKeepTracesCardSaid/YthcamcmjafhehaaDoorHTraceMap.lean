/- What the map of the calls' beginnings holds, round by round. -/
import Derived.Test.YthcamcmjafhehaaDoorHTraceDefs
import Derived.Maps.Views
import Derived.Maps.OwnSet
namespace Go.Proofs.YthcamcmjafhehaaDoor.PFnExactKeepTraces
set_option linter.unusedVariables false
open Go.RowKit Go.Maps Go.Proofs.YthcamcmjafhehaaDoorW.PrintWords Go.Proofs.YthcamcmjafhehaaDoorW.PrintLast Go.Proofs.YthcamcmjafhehaaDoor.Evs

/-- The map holds, of the calls ahead of i, each Id's From. -/
structure MapOk (D : DataW Unit) (l : List SC) (i : Nat) : Prop where
  isMap : IsMap D
  has : ∀ p : Int, Maps.has D (.int .i64 p) = (parFrom (l.take i) p).isSome
  val : ∀ (p f : Int), parFrom (l.take i) p = some f → ∀ z, D.atKey (.int .i64 p) z = .lit (.int .i64 f)
  low : ∀ (j : Nat) (hj : j < i) (hl : j < l.length), (l[j]'hl).f0 ≤ (rd_T60 l ((i : Int) - 1)).f0

theorem parFrom_snoc (x : SC) (p : Int) : ∀ l : List SC, parFrom (l ++ [x]) p = (match parFrom l p with | some f => some f | none => if x.f0 = p then some x.f4 else none)
  | [] => by simp only [List.nil_append, parFrom]
  | y :: ys => by
    simp only [List.cons_append, parFrom]
    by_cases h : y.f0 = p
    · rw [if_pos h, if_pos h]
    · rw [if_neg h, if_neg h]
      exact parFrom_snoc x p ys
theorem parFrom_none {p : Int} : ∀ {l : List SC}, (∀ y ∈ l, y.f0 ≠ p) → parFrom l p = none
  | [], _ => rfl
  | y :: ys, h => by
    simp only [parFrom]
    rw [if_neg (h y List.mem_cons_self)]
    exact parFrom_none (fun z hz => h z (List.mem_cons_of_mem _ hz))

theorem mapOk_start (l : List SC) : MapOk (.map []) l 0 :=
  ⟨⟨[], rfl⟩, fun p => rfl, fun p f h => by simp [parFrom] at h, fun j hj => by omega⟩

theorem rising_of {l : List SC} {i : Nat} (h0 : 0 < i) (h : badB l i = false) : (rd_T60 l ((i : Int) - 1)).f0 < (rd_T60 l (i : Int)).f0 := by
  unfold badB at h
  simp only [Bool.or_eq_false_iff] at h
  obtain ⟨⟨⟨⟨⟨⟨_, h⟩, _⟩, _⟩, _⟩, _⟩, _⟩ := h
  rw [decide_eq_true h0, Bool.true_and] at h
  have := of_decide_eq_false h
  omega

theorem mapOk_step {D : DataW Unit} {l : List SC} {i : Nat} (h : MapOk D l i) (hi : i < l.length) (hb : badB l i = false) :
    MapOk (D.put (.int .i64 (rd_T60 l (i : Int)).f0) (.lit (.int .i64 (rd_T60 l (i : Int)).f4))) l (i + 1) := by
  have hx := rd_ge l i hi
  have hlt : ∀ (j : Nat) (hj : j < i) (hl : j < l.length), (l[j]'hl).f0 < (rd_T60 l (i : Int)).f0 := fun j hj hl => by
    have h1 := h.low j hj hl
    have h2 := rising_of (by omega) hb
    omega
  have hne : ∀ y ∈ l.take i, y.f0 ≠ (rd_T60 l (i : Int)).f0 := fun y hy => by
    obtain ⟨j, hj⟩ := List.getElem?_of_mem hy
    have hjl := (List.getElem?_eq_some_iff.1 hj).1
    rw [List.length_take] at hjl
    rw [List.getElem?_take_of_lt (by omega), List.getElem?_eq_getElem (by omega)] at hj
    have := hlt j (by omega) (by omega)
    rw [Option.some.inj hj] at this
    omega
  have ht : l.take (i + 1) = l.take i ++ [rd_T60 l (i : Int)] := by rw [hx, List.take_succ_eq_append_getElem hi]
  refine ⟨h.isMap.put _ _, fun p => ?_, fun p f hp z => ?_, fun j hj hl => ?_⟩
  · rw [ht, parFrom_snoc]
    by_cases hpe : (rd_T60 l (i : Int)).f0 = p
    · subst hpe
      rw [has_put_same h.isMap (by trivial), parFrom_none hne]
      simp
    · rw [has_put_other (by intro e; injection e with _ e; exact hpe e.symm), h.has p]
      cases parFrom (l.take i) p <;> simp [hpe]
  · rw [ht, parFrom_snoc] at hp
    by_cases hpe : (rd_T60 l (i : Int)).f0 = p
    · subst hpe
      rw [parFrom_none hne] at hp
      simp only [if_true] at hp
      rw [atKey_put_same h.isMap (by trivial), Option.some.inj hp]
    · rw [atKey_put_other (by intro e; injection e with _ e; exact hpe e.symm)]
      cases hq : parFrom (l.take i) p with
      | none => rw [hq] at hp; simp [hpe] at hp
      | some g =>
        rw [hq] at hp
        have e : g = f := Option.some.inj hp
        rw [← e]
        exact h.val p g hq z
  · rw [show ((i + 1 : Nat) : Int) - 1 = (i : Int) by omega]
    by_cases hji : j = i
    · subst hji
      rw [hx]
      omega
    · have := hlt j (by omega) hl
      omega

theorem wf_call {l : List SC} (h : l.all wfCall = true) (i : Nat) (hi : i < l.length) : (Lit.int .i64 (rd_T60 l (i : Int)).f0).wf = true ∧ (Lit.int .i64 (rd_T60 l (i : Int)).f1).wf = true ∧ (Lit.int .i64 (rd_T60 l (i : Int)).f4).wf = true := by
  rw [rd_ge l i hi]
  have := List.all_eq_true.1 h _ (List.getElem_mem hi)
  unfold wfCall at this
  simp only [Bool.and_eq_true] at this
  exact ⟨this.1.1, this.1.2, this.2⟩
theorem below_grown {B : Nat} {a w w' : World} (h : Below B a w) (hg : w.grownBy w' (some (B + 1))) (hB : B + 1 < w.heap.size) : Below B a w' :=
  h.grown hg (by omega) (fun k hk => by injection hk with hk; omega)
theorem grown_far {w w' : World} {b c : Nat} (hg : w.grownBy w' (some b)) (hc : c < w.heap.size) (hne : c ≠ b) : w'.heap[c]? = w.heap[c]? :=
  hg.block c hc (by intro e; injection e with e; exact hne e)
theorem own_made (w : World) (o : Obj) (P : Program) (k : TypeId) (R : Value → Option (DataW Unit × List MemPlace)) : ((w.alloc o).alloc (.map #[] 0)).ownsMap P k R (w.heap.size + 1) 0 (.map []) := by
  have h := World.ownsMap_made (w.alloc o) P k R
  rwa [show (w.alloc o).heap.size = w.heap.size + 1 from Array.size_push ..] at h
theorem own_at {w w' : World} {P : Program} {k : TypeId} {R : Value → Option (DataW Unit × List MemPlace)} {b n : Nat} {D : DataW Unit} (h : w.ownsMap P k R b n D) (e : w'.heap[b]? = w.heap[b]?) : w'.ownsMap P k R b n D := by
  obtain ⟨es, c, h1, h2⟩ := h
  exact ⟨es, c, e.trans h1, h2⟩
theorem own_lt_map {w : World} {P : Program} {k : TypeId} {R : Value → Option (DataW Unit × List MemPlace)} {b n : Nat} {D : DataW Unit} (h : w.ownsMap P k R b n D) : b < w.heap.size := by
  obtain ⟨es, c, h1, _⟩ := h
  exact (Array.getElem?_eq_some_iff.1 h1).1
end Go.Proofs.YthcamcmjafhehaaDoor.PFnExactKeepTraces
