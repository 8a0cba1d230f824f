/- Parts of one claim's proof, put together (merge.py). -/
import Derived.Test.YtalhphclogbpnaaAFnCritical
import Derived.Test.YtalhphclogbpnaaPFnCriticalx1
import Derived.Lib.Hide
import Derived.Maps.Views
import Derived.Maps.OwnSet
/- What is asked of a trace: plain words, and the small functions' answers. -/
namespace Go.Proofs.Ytalhphclogbpnaa.PFnCritical
set_option linter.unusedVariables false
open Go.RowKit Go.Proofs.YtalhphclogbpnaaW.PrintWords Go.Proofs.YtalhphclogbpnaaW.PrintLast Go.Proofs.Ytalhphclogbpnaa.Evs Go.Proofs.Ytalhphclogbpnaa.AFnCritical

abbrev SC := S34
/-- The From of the first call of an Id. -/
def parFrom : List SC → Int → Option Int
  | [], _ => none
  | x :: xs, p => if x.f0 = p then some x.f4 else parFrom xs p
/-- What is wrong with a call by itself, behind another one. -/
def badB (l : List SC) (i : Nat) : Bool :=
  decide ((rd_T34 l i).f0 < 1) || (decide (0 < i) && decide ((rd_T34 l i).f0 ≤ (rd_T34 l ((i : Int) - 1)).f0)) || !nameB (rd_T34 l i).f2 || !nameB (rd_T34 l i).f3 || !timeB (rd_T34 l i).f4 || !timeB (rd_T34 l i).f5 || decide ((rd_T34 l i).f5 < (rd_T34 l i).f4)
/-- Its parent is an earlier one, that began no later. -/
def kidB (l : List SC) (i : Nat) : Bool :=
  if i = 0 then decide ((rd_T34 l i).f1 = 0) else match parFrom (l.take i) (rd_T34 l i).f1 with
    | none => false
    | some f => decide (f ≤ (rd_T34 l i).f4)
def okB (l : List SC) (i : Nat) : Bool := !badB l i && kidB l i
def goodTraceB (id : Int) (l : List SC) : Bool := decide (1 ≤ id) && decide (1 ≤ l.length) && decide (l.length ≤ 100) && (List.range' 0 l.length).all (okB l)
def spec_GoodTrace.f (a0_0 : Int) (l0_1 : List SC) : Option Bool := some (goodTraceB a0_0 l0_1)
/-- The two written integers that the program's map holds of a call. -/
def wfI (n : Int) : Bool := (Lit.int .i64 n).wf
def wfCall (x : SC) : Bool := wfI x.f0 && wfI x.f1 && wfI x.f4
def impl_GoodTrace.f (a0_0 : Int) (l0_1 : List SC) : Option Bool := if l0_1.all wfCall then some (goodTraceB a0_0 l0_1) else none

theorem call_of {α : Type} {g : Nat → Option α} {r : α} (h : EvP g (fun x => x = r)) : ∃ k, g k = some r := EvP.rounds h
theorem specName (s : ByteArray) (w : World) : Calls Try.prog 21 #[.string s] w fun e w' => e = .returned (.bool (nameB s)) ∧ ∃ m, w' = w.drewN m := by
  obtain ⟨k, h⟩ := EvP.rounds (spec_l2Name_ev s)
  exact (spec_l2Name.calls k s _ w h).mono fun e w' ⟨he, hd⟩ => ⟨he, hd.out⟩
theorem specTime (t : Int) (w : World) : Calls Try.prog 22 #[.int .i64 t] w fun e w' => e = .returned (.bool (timeB t)) ∧ ∃ m, w' = w.drewN m :=
  (spec_l3Time.calls t _ w (spec_l3Time_ev t)).mono fun e w' ⟨he, hd⟩ => ⟨he, hd.out⟩
theorem implName (s : ByteArray) (w : World) : Calls Try.prog 28 #[.string s] w fun e w' => e = .returned (.bool (nameB s)) ∧ ∃ m, w' = w.drewN m := by
  obtain ⟨k, h⟩ := EvP.rounds (impl_isName_ev s)
  exact (impl_isName.calls k s _ w h).mono fun e w' ⟨he, hd⟩ => ⟨he, hd.out⟩
theorem implTime (t : Int) (w : World) : Calls Try.prog 29 #[.int .i64 t] w fun e w' => e = .returned (.bool (timeB t)) ∧ ∃ m, w' = w.drewN m :=
  (impl_isTime.calls t _ w (impl_isTime_ev t)).mono fun e w' ⟨he, hd⟩ => ⟨he, hd.out⟩

theorem specName_of (s : ByteArray) {b : Bool} (h : nameB s = b) (w : World) : Calls Try.prog 21 #[.string s] w fun e w' => e = .returned (.bool b) ∧ ∃ m, w' = w.drewN m := by
  rw [← h]
  exact specName s w
theorem implName_of (s : ByteArray) {b : Bool} (h : nameB s = b) (w : World) : Calls Try.prog 28 #[.string s] w fun e w' => e = .returned (.bool b) ∧ ∃ m, w' = w.drewN m := by
  rw [← h]
  exact implName s w
theorem specTime_of (t : Int) {b : Bool} (h : timeB t = b) (w : World) : Calls Try.prog 22 #[.int .i64 t] w fun e w' => e = .returned (.bool b) ∧ ∃ m, w' = w.drewN m := by
  rw [← h]
  exact specTime t w
theorem implTime_of (t : Int) {b : Bool} (h : timeB t = b) (w : World) : Calls Try.prog 29 #[.int .i64 t] w fun e w' => e = .returned (.bool b) ∧ ∃ m, w' = w.drewN m := by
  rw [← h]
  exact implTime t w
theorem prev_facts {i n : Nat} (h0 : 0 < i) (h : (i : Int) < (n : Int)) (hn : n ≤ 100) : IntKind.i64.wrap ((i : Int) - 1) = (i : Int) - 1 ∧ 0 ≤ (i : Int) - 1 ∧ (i : Int) - 1 < (n : Int) ∧ wrap64 ((i : Int) - 1) = (i : Int) - 1 :=
  ⟨(i64_w _).trans (w64 (by omega) (by omega)), by omega, by omega, w64 (by omega) (by omega)⟩
theorem rd_ge (l : List SC) (i : Nat) (h : i < l.length) : rd_T34 l (i : Int) = l[i] := getD_get _ l i h
/-- The place that l23Call tells. -/
def placeOf : List SC → Int → Int → Int
  | [], _, _ => -1
  | x :: xs, p, i => if x.f0 = p then i else placeOf xs p (i + 1)
theorem l23_loop (l : List SC) (hl : l.length ≤ 1048576) (p : Int) : ∀ (d i : Nat), i + d = l.length → EvP (fun k => spec_l23Call.l0 k p l (l.length : Int) (i : Int)) (fun r => r = placeOf (l.drop i) p (i : Int)) := by
  intro d
  induction d with
  | zero =>
    intro i h
    refine EvP.step ?_
    simp only [spec_l23Call.l0]
    refine EvP.neg (by omega) (EvP.now ?_)
    rw [List.drop_of_length_le (by omega)]
    rfl
  | succ d ih =>
    intro i h
    have hi : i < l.length := by omega
    refine EvP.step ?_
    simp only [spec_l23Call.l0, wrap_succ hi hl, rd_ge l i hi]
    rw [List.drop_eq_getElem_cons hi]
    refine EvP.pos (by omega) (EvP.pos (by omega) (EvP.pos (by omega) (EvP.ite (fun h1 => EvP.now (by simp only [placeOf]; rw [if_pos h1])) (fun h1 => ?_))))
    simp only [placeOf]
    rw [if_neg h1]
    exact ih (i + 1) (by omega)
theorem place_from : ∀ (l : List SC) (p : Int) (b : Int), 0 ≤ b → (placeOf l p b = -1 ∧ parFrom l p = none) ∨ ∃ j : Nat, ∃ h : j < l.length, placeOf l p b = b + j ∧ parFrom l p = some (l[j]'h).f4
  | [], p, b, _ => .inl ⟨rfl, rfl⟩
  | x :: xs, p, b, hb => by
    by_cases h : x.f0 = p
    · exact .inr ⟨0, by simp, by simp [placeOf, h], by simp [parFrom, h]⟩
    · simp only [placeOf, parFrom, if_neg h]
      rcases place_from xs p (b + 1) (by omega) with h1 | ⟨j, hj, h1, h2⟩
      · exact .inl h1
      · exact .inr ⟨j + 1, by simp; omega, by rw [h1]; omega, by rw [h2]; rfl⟩
theorem specCall (l : List SC) (hl : l.length ≤ 1048576) (p : Int) (A : Option Addr) (c : Nat) (w : World) (hC : Kd.C k34 w A l.length l) (hc : l.length ≤ c) :
    Calls Try.prog 23 #[.slice A l.length c, .int .i64 p] w fun e w' => e = .returned (.int .i64 (placeOf l p 0)) ∧ Below w.heap.size w w' := by
  obtain ⟨k, h⟩ := EvP.rounds (l23_loop l hl p l.length 0 (by omega))
  exact spec_l23Call.calls k A c l p _ w hC hc h
theorem first_part {l : List SC} {w : World} {ad : Addr} (hC : Kd.C k34 w (some ad) l.length l) (i : Nat) (hi : i ≤ l.length) : Kd.C k34 w (some ad) (l.take i).length (l.take i) := by
  obtain ⟨_, h2, h3⟩ := hC
  refine ⟨rfl, by rw [List.length_take]; omega, fun h0 => ?_⟩
  rw [List.length_take] at h0
  obtain ⟨ad', e, h4⟩ := h3 (by omega)
  refine ⟨ad', e, fun j p hj => h4 j p ?_⟩
  have hjl := (List.getElem?_eq_some_iff.1 hj).1
  rw [List.length_take] at hjl
  rw [List.getElem?_take_of_lt (by omega)] at hj
  exact hj
/-- The parent's place, as the walk meets it: none, or one ahead. -/
theorem specParent {l : List SC} {w : World} {ad : Addr} {c : Nat} (hC : Kd.C k34 w (some ad) l.length l) (hc : l.length ≤ c) (hl : l.length ≤ 100) (i : Nat) (hi : i < l.length) (p : Int) :
    (parFrom (l.take i) p = none ∧ ∀ W, Below w.heap.size w W → Calls Try.prog 23 #[.slice (some ad) i c, .int .i64 p] W fun e w' => e = .returned (.int .i64 (-1)) ∧ Below W.heap.size W w') ∨
    ∃ j : Nat, j < l.length ∧ parFrom (l.take i) p = some (rd_T34 l (j : Int)).f4 ∧ ∀ W, Below w.heap.size w W → Calls Try.prog 23 #[.slice (some ad) i c, .int .i64 p] W fun e w' => e = .returned (.int .i64 (j : Int)) ∧ Below W.heap.size W w' := by
  have hlen : (l.take i).length = i := by rw [List.length_take]; omega
  have hcall : ∀ W, Below w.heap.size w W → Calls Try.prog 23 #[.slice (some ad) i c, .int .i64 p] W fun e w' => e = .returned (.int .i64 (placeOf (l.take i) p 0)) ∧ Below W.heap.size W w' := fun W hb => by
    have := specCall (l.take i) (by omega) p (some ad) c W (Kd.C_below (first_part hC i (by omega)) hb) (by omega)
    rw [hlen] at this
    exact this
  rcases place_from (l.take i) p 0 (Int.le_refl _) with ⟨hq, hp⟩ | ⟨j, hj, hq, hp⟩
  · rw [hq] at hcall
    exact .inl ⟨hp, hcall⟩
  · rw [hq, Int.zero_add] at hcall
    refine .inr ⟨j, by omega, ?_, hcall⟩
    rw [hp, List.getElem_take, rd_ge l j (by omega)]
theorem ok_bad {l : List SC} {i : Nat} (h : badB l i = true) : okB l i = false := by unfold okB; rw [h]; rfl
theorem ok_kid {l : List SC} {i : Nat} (h : badB l i = false) : okB l i = kidB l i := by unfold okB; rw [h]; rfl
theorem kid_zero (l : List SC) : kidB l 0 = decide ((rd_T34 l ((0 : Nat) : Int)).f1 = 0) := rfl
theorem kid_none {l : List SC} {i : Nat} (h0 : 0 < i) (h : parFrom (l.take i) (rd_T34 l i).f1 = none) : kidB l i = false := by
  unfold kidB
  rw [if_neg (by omega), h]
theorem kid_some {l : List SC} {i : Nat} {f : Int} (h0 : 0 < i) (h : parFrom (l.take i) (rd_T34 l i).f1 = some f) : kidB l i = decide (f ≤ (rd_T34 l i).f4) := by
  unfold kidB
  rw [if_neg (by omega), h]
end Go.Proofs.Ytalhphclogbpnaa.PFnCritical
/- What the map of the calls' beginnings holds, round by round. -/
namespace Go.Proofs.Ytalhphclogbpnaa.PFnCritical
set_option linter.unusedVariables false
open Go.RowKit Go.Maps Go.Proofs.YtalhphclogbpnaaW.PrintWords Go.Proofs.YtalhphclogbpnaaW.PrintLast Go.Proofs.Ytalhphclogbpnaa.Evs

/-- The map holds, of the calls ahead of i, each Id's From. -/
structure MapOk (D : DataW Unit) (l : List SC) (i : Nat) : Prop where
  isMap : IsMap D
  has : ∀ p : Int, Maps.has D (.int .i64 p) = (parFrom (l.take i) p).isSome
  val : ∀ (p f : Int), parFrom (l.take i) p = some f → ∀ z, D.atKey (.int .i64 p) z = .lit (.int .i64 f)
  low : ∀ (j : Nat) (hj : j < i) (hl : j < l.length), (l[j]'hl).f0 ≤ (rd_T34 l ((i : Int) - 1)).f0

theorem parFrom_snoc (x : SC) (p : Int) : ∀ l : List SC, parFrom (l ++ [x]) p = (match parFrom l p with | some f => some f | none => if x.f0 = p then some x.f4 else none)
  | [] => by simp only [List.nil_append, parFrom]
  | y :: ys => by
    simp only [List.cons_append, parFrom]
    by_cases h : y.f0 = p
    · rw [if_pos h, if_pos h]
    · rw [if_neg h, if_neg h]
      exact parFrom_snoc x p ys
theorem parFrom_none {p : Int} : ∀ {l : List SC}, (∀ y ∈ l, y.f0 ≠ p) → parFrom l p = none
  | [], _ => rfl
  | y :: ys, h => by
    simp only [parFrom]
    rw [if_neg (h y List.mem_cons_self)]
    exact parFrom_none (fun z hz => h z (List.mem_cons_of_mem _ hz))

theorem mapOk_start (l : List SC) : MapOk (.map []) l 0 :=
  ⟨⟨[], rfl⟩, fun p => rfl, fun p f h => by simp [parFrom] at h, fun j hj => by omega⟩

theorem rising_of {l : List SC} {i : Nat} (h0 : 0 < i) (h : badB l i = false) : (rd_T34 l ((i : Int) - 1)).f0 < (rd_T34 l (i : Int)).f0 := by
  unfold badB at h
  simp only [Bool.or_eq_false_iff] at h
  obtain ⟨⟨⟨⟨⟨⟨_, h⟩, _⟩, _⟩, _⟩, _⟩, _⟩ := h
  rw [decide_eq_true h0, Bool.true_and] at h
  have := of_decide_eq_false h
  omega

theorem mapOk_step {D : DataW Unit} {l : List SC} {i : Nat} (h : MapOk D l i) (hi : i < l.length) (hb : badB l i = false) :
    MapOk (D.put (.int .i64 (rd_T34 l (i : Int)).f0) (.lit (.int .i64 (rd_T34 l (i : Int)).f4))) l (i + 1) := by
  have hx := rd_ge l i hi
  have hlt : ∀ (j : Nat) (hj : j < i) (hl : j < l.length), (l[j]'hl).f0 < (rd_T34 l (i : Int)).f0 := fun j hj hl => by
    have h1 := h.low j hj hl
    have h2 := rising_of (by omega) hb
    omega
  have hne : ∀ y ∈ l.take i, y.f0 ≠ (rd_T34 l (i : Int)).f0 := fun y hy => by
    obtain ⟨j, hj⟩ := List.getElem?_of_mem hy
    have hjl := (List.getElem?_eq_some_iff.1 hj).1
    rw [List.length_take] at hjl
    rw [List.getElem?_take_of_lt (by omega), List.getElem?_eq_getElem (by omega)] at hj
    have := hlt j (by omega) (by omega)
    rw [Option.some.inj hj] at this
    omega
  have ht : l.take (i + 1) = l.take i ++ [rd_T34 l (i : Int)] := by rw [hx, List.take_succ_eq_append_getElem hi]
  refine ⟨h.isMap.put _ _, fun p => ?_, fun p f hp z => ?_, fun j hj hl => ?_⟩
  · rw [ht, parFrom_snoc]
    by_cases hpe : (rd_T34 l (i : Int)).f0 = p
    · subst hpe
      rw [has_put_same h.isMap (by trivial), parFrom_none hne]
      simp
    · rw [has_put_other (by intro e; injection e with _ e; exact hpe e.symm), h.has p]
      cases parFrom (l.take i) p <;> simp [hpe]
  · rw [ht, parFrom_snoc] at hp
    by_cases hpe : (rd_T34 l (i : Int)).f0 = p
    · subst hpe
      rw [parFrom_none hne] at hp
      simp only [if_true] at hp
      rw [atKey_put_same h.isMap (by trivial), Option.some.inj hp]
    · rw [atKey_put_other (by intro e; injection e with _ e; exact hpe e.symm)]
      cases hq : parFrom (l.take i) p with
      | none => rw [hq] at hp; simp [hpe] at hp
      | some g =>
        rw [hq] at hp
        have e : g = f := Option.some.inj hp
        rw [← e]
        exact h.val p g hq z
  · rw [show ((i + 1 : Nat) : Int) - 1 = (i : Int) by omega]
    by_cases hji : j = i
    · subst hji
      rw [hx]
      omega
    · have := hlt j (by omega) hl
      omega

theorem wf_call {l : List SC} (h : l.all wfCall = true) (i : Nat) (hi : i < l.length) : (Lit.int .i64 (rd_T34 l (i : Int)).f0).wf = true ∧ (Lit.int .i64 (rd_T34 l (i : Int)).f1).wf = true ∧ (Lit.int .i64 (rd_T34 l (i : Int)).f4).wf = true := by
  rw [rd_ge l i hi]
  have := List.all_eq_true.1 h _ (List.getElem_mem hi)
  unfold wfCall at this
  simp only [Bool.and_eq_true] at this
  exact ⟨this.1.1, this.1.2, this.2⟩
theorem below_grown {B : Nat} {a w w' : World} (h : Below B a w) (hg : w.grownBy w' (some (B + 1))) (hB : B + 1 < w.heap.size) : Below B a w' :=
  h.grown hg (by omega) (fun k hk => by injection hk with hk; omega)
theorem grown_far {w w' : World} {b c : Nat} (hg : w.grownBy w' (some b)) (hc : c < w.heap.size) (hne : c ≠ b) : w'.heap[c]? = w.heap[c]? :=
  hg.block c hc (by intro e; injection e with e; exact hne e)
theorem own_made (w : World) (o : Obj) (P : Program) (k : TypeId) (R : Value → Option (DataW Unit × List MemPlace)) : ((w.alloc o).alloc (.map #[] 0)).ownsMap P k R (w.heap.size + 1) 0 (.map []) := by
  have h := World.ownsMap_made (w.alloc o) P k R
  rwa [show (w.alloc o).heap.size = w.heap.size + 1 from Array.size_push ..] at h
theorem own_at {w w' : World} {P : Program} {k : TypeId} {R : Value → Option (DataW Unit × List MemPlace)} {b n : Nat} {D : DataW Unit} (h : w.ownsMap P k R b n D) (e : w'.heap[b]? = w.heap[b]?) : w'.ownsMap P k R b n D := by
  obtain ⟨es, c, h1, h2⟩ := h
  exact ⟨es, c, e.trans h1, h2⟩
theorem own_lt_map {w : World} {P : Program} {k : TypeId} {R : Value → Option (DataW Unit × List MemPlace)} {b n : Nat} {D : DataW Unit} (h : w.ownsMap P k R b n D) : b < w.heap.size := by
  obtain ⟨es, c, h1, _⟩ := h
  exact (Array.getElem?_eq_some_iff.1 h1).1
end Go.Proofs.Ytalhphclogbpnaa.PFnCritical
