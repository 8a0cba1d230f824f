/- What is asked of a trace: plain words, and the small functions' answers. -/
import Derived.Test.YthcamcmjafhehaaDoorAFnExactKeepTraces
import Derived.Test.YthcamcmjafhehaaDoorPFnExactKeepTracesx1
import Derived.Lib.Hide
namespace Go.Proofs.YthcamcmjafhehaaDoor.PFnExactKeepTraces
set_option linter.unusedVariables false
open Go.RowKit Go.Proofs.YthcamcmjafhehaaDoorW.PrintWords Go.Proofs.YthcamcmjafhehaaDoorW.PrintLast Go.Proofs.YthcamcmjafhehaaDoor.Evs Go.Proofs.YthcamcmjafhehaaDoor.AFnExactKeepTraces

abbrev SC := S60
/-- The From of the first call of an Id. -/
def parFrom : List SC → Int → Option Int
  | [], _ => none
  | x :: xs, p => if x.f0 = p then some x.f4 else parFrom xs p
/-- What is wrong with a call by itself, behind another one. -/
def badB (l : List SC) (i : Nat) : Bool :=
  decide ((rd_T60 l i).f0 < 1) || (decide (0 < i) && decide ((rd_T60 l i).f0 ≤ (rd_T60 l ((i : Int) - 1)).f0)) || !nameB (rd_T60 l i).f2 || !nameB (rd_T60 l i).f3 || !timeB (rd_T60 l i).f4 || !timeB (rd_T60 l i).f5 || decide ((rd_T60 l i).f5 < (rd_T60 l i).f4)
/-- Its parent is an earlier one, that began no later. -/
def kidB (l : List SC) (i : Nat) : Bool :=
  if i = 0 then decide ((rd_T60 l i).f1 = 0) else match parFrom (l.take i) (rd_T60 l i).f1 with
    | none => false
    | some f => decide (f ≤ (rd_T60 l i).f4)
def okB (l : List SC) (i : Nat) : Bool := !badB l i && kidB l i
def goodTraceB (id : Int) (l : List SC) : Bool := decide (1 ≤ id) && decide (1 ≤ l.length) && decide (l.length ≤ 100) && (List.range' 0 l.length).all (okB l)
def spec_GoodTrace.f (a0_0 : Int) (l0_1 : List SC) : Option Bool := some (goodTraceB a0_0 l0_1)
/-- The two written integers that the program's map holds of a call. -/
def wfI (n : Int) : Bool := (Lit.int .i64 n).wf
def wfCall (x : SC) : Bool := wfI x.f0 && wfI x.f1 && wfI x.f4
def impl_GoodTrace.f (a0_0 : Int) (l0_1 : List SC) : Option Bool := if l0_1.all wfCall then some (goodTraceB a0_0 l0_1) else none

theorem call_of {α : Type} {g : Nat → Option α} {r : α} (h : EvP g (fun x => x = r)) : ∃ k, g k = some r := EvP.rounds h
theorem specName (s : ByteArray) (w : World) : Calls Tryd.prog 39 #[.string s] w fun e w' => e = .returned (.bool (nameB s)) ∧ ∃ m, w' = w.drewN m := by
  obtain ⟨k, h⟩ := EvP.rounds (spec_l2Name_ev s)
  exact (spec_l2Name.calls k s _ w h).mono fun e w' ⟨he, hd⟩ => ⟨he, hd.out⟩
theorem specTime (t : Int) (w : World) : Calls Tryd.prog 38 #[.int .i64 t] w fun e w' => e = .returned (.bool (timeB t)) ∧ ∃ m, w' = w.drewN m :=
  (spec_l3Time.calls t _ w (spec_l3Time_ev t)).mono fun e w' ⟨he, hd⟩ => ⟨he, hd.out⟩
theorem implName (s : ByteArray) (w : World) : Calls Tryd.prog 47 #[.string s] w fun e w' => e = .returned (.bool (nameB s)) ∧ ∃ m, w' = w.drewN m := by
  obtain ⟨k, h⟩ := EvP.rounds (impl_isName_ev s)
  exact (impl_isName.calls k s _ w h).mono fun e w' ⟨he, hd⟩ => ⟨he, hd.out⟩
theorem implTime (t : Int) (w : World) : Calls Tryd.prog 46 #[.int .i64 t] w fun e w' => e = .returned (.bool (timeB t)) ∧ ∃ m, w' = w.drewN m :=
  (impl_isTime.calls t _ w (impl_isTime_ev t)).mono fun e w' ⟨he, hd⟩ => ⟨he, hd.out⟩

theorem specName_of (s : ByteArray) {b : Bool} (h : nameB s = b) (w : World) : Calls Tryd.prog 39 #[.string s] w fun e w' => e = .returned (.bool b) ∧ ∃ m, w' = w.drewN m := by
  rw [← h]
  exact specName s w
theorem implName_of (s : ByteArray) {b : Bool} (h : nameB s = b) (w : World) : Calls Tryd.prog 47 #[.string s] w fun e w' => e = .returned (.bool b) ∧ ∃ m, w' = w.drewN m := by
  rw [← h]
  exact implName s w
theorem specTime_of (t : Int) {b : Bool} (h : timeB t = b) (w : World) : Calls Tryd.prog 38 #[.int .i64 t] w fun e w' => e = .returned (.bool b) ∧ ∃ m, w' = w.drewN m := by
  rw [← h]
  exact specTime t w
theorem implTime_of (t : Int) {b : Bool} (h : timeB t = b) (w : World) : Calls Tryd.prog 46 #[.int .i64 t] w fun e w' => e = .returned (.bool b) ∧ ∃ m, w' = w.drewN m := by
  rw [← h]
  exact implTime t w
theorem prev_facts {i n : Nat} (h0 : 0 < i) (h : (i : Int) < (n : Int)) (hn : n ≤ 100) : IntKind.i64.wrap ((i : Int) - 1) = (i : Int) - 1 ∧ 0 ≤ (i : Int) - 1 ∧ (i : Int) - 1 < (n : Int) ∧ wrap64 ((i : Int) - 1) = (i : Int) - 1 :=
  ⟨(i64_w _).trans (w64 (by omega) (by omega)), by omega, by omega, w64 (by omega) (by omega)⟩
theorem rd_ge (l : List SC) (i : Nat) (h : i < l.length) : rd_T60 l (i : Int) = l[i] := getD_get _ l i h
/-- The place that l23Call tells. -/
def placeOf : List SC → Int → Int → Int
  | [], _, _ => -1
  | x :: xs, p, i => if x.f0 = p then i else placeOf xs p (i + 1)
theorem l23_loop (l : List SC) (hl : l.length ≤ 1048576) (p : Int) : ∀ (d i : Nat), i + d = l.length → EvP (fun k => spec_l23Call.l0 k p l (l.length : Int) (i : Int)) (fun r => r = placeOf (l.drop i) p (i : Int)) := by
  intro d
  induction d with
  | zero =>
    intro i h
    refine EvP.step ?_
    simp only [spec_l23Call.l0]
    refine EvP.neg (by omega) (EvP.now ?_)
    rw [List.drop_of_length_le (by omega)]
    rfl
  | succ d ih =>
    intro i h
    have hi : i < l.length := by omega
    refine EvP.step ?_
    simp only [spec_l23Call.l0, wrap_succ hi hl, rd_ge l i hi]
    rw [List.drop_eq_getElem_cons hi]
    refine EvP.pos (by omega) (EvP.pos (by omega) (EvP.pos (by omega) (EvP.ite (fun h1 => EvP.now (by simp only [placeOf]; rw [if_pos h1])) (fun h1 => ?_))))
    simp only [placeOf]
    rw [if_neg h1]
    exact ih (i + 1) (by omega)
theorem place_from : ∀ (l : List SC) (p : Int) (b : Int), 0 ≤ b → (placeOf l p b = -1 ∧ parFrom l p = none) ∨ ∃ j : Nat, ∃ h : j < l.length, placeOf l p b = b + j ∧ parFrom l p = some (l[j]'h).f4
  | [], p, b, _ => .inl ⟨rfl, rfl⟩
  | x :: xs, p, b, hb => by
    by_cases h : x.f0 = p
    · exact .inr ⟨0, by simp, by simp [placeOf, h], by simp [parFrom, h]⟩
    · simp only [placeOf, parFrom, if_neg h]
      rcases place_from xs p (b + 1) (by omega) with h1 | ⟨j, hj, h1, h2⟩
      · exact .inl h1
      · exact .inr ⟨j + 1, by simp; omega, by rw [h1]; omega, by rw [h2]; rfl⟩
theorem specCall (l : List SC) (hl : l.length ≤ 1048576) (p : Int) (A : Option Addr) (c : Nat) (w : World) (hC : Kd.C k60 w A l.length l) (hc : l.length ≤ c) :
    Calls Tryd.prog 55 #[.slice A l.length c, .int .i64 p] w fun e w' => e = .returned (.int .i64 (placeOf l p 0)) ∧ Below w.heap.size w w' := by
  obtain ⟨k, h⟩ := EvP.rounds (l23_loop l hl p l.length 0 (by omega))
  exact spec_l23Call.calls k A c l p _ w hC hc h
theorem first_part {l : List SC} {w : World} {ad : Addr} (hC : Kd.C k60 w (some ad) l.length l) (i : Nat) (hi : i ≤ l.length) : Kd.C k60 w (some ad) (l.take i).length (l.take i) := by
  obtain ⟨_, h2, h3⟩ := hC
  refine ⟨rfl, by rw [List.length_take]; omega, fun h0 => ?_⟩
  rw [List.length_take] at h0
  obtain ⟨ad', e, h4⟩ := h3 (by omega)
  refine ⟨ad', e, fun j p hj => h4 j p ?_⟩
  have hjl := (List.getElem?_eq_some_iff.1 hj).1
  rw [List.length_take] at hjl
  rw [List.getElem?_take_of_lt (by omega)] at hj
  exact hj
/-- The parent's place, as the walk meets it: none, or one ahead. -/
theorem specParent {l : List SC} {w : World} {ad : Addr} {c : Nat} (hC : Kd.C k60 w (some ad) l.length l) (hc : l.length ≤ c) (hl : l.length ≤ 100) (i : Nat) (hi : i < l.length) (p : Int) :
    (parFrom (l.take i) p = none ∧ ∀ W, Below w.heap.size w W → Calls Tryd.prog 55 #[.slice (some ad) i c, .int .i64 p] W fun e w' => e = .returned (.int .i64 (-1)) ∧ Below W.heap.size W w') ∨
    ∃ j : Nat, j < l.length ∧ parFrom (l.take i) p = some (rd_T60 l (j : Int)).f4 ∧ ∀ W, Below w.heap.size w W → Calls Tryd.prog 55 #[.slice (some ad) i c, .int .i64 p] W fun e w' => e = .returned (.int .i64 (j : Int)) ∧ Below W.heap.size W w' := by
  have hlen : (l.take i).length = i := by rw [List.length_take]; omega
  have hcall : ∀ W, Below w.heap.size w W → Calls Tryd.prog 55 #[.slice (some ad) i c, .int .i64 p] W fun e w' => e = .returned (.int .i64 (placeOf (l.take i) p 0)) ∧ Below W.heap.size W w' := fun W hb => by
    have := specCall (l.take i) (by omega) p (some ad) c W (Kd.C_below (first_part hC i (by omega)) hb) (by omega)
    rw [hlen] at this
    exact this
  rcases place_from (l.take i) p 0 (Int.le_refl _) with ⟨hq, hp⟩ | ⟨j, hj, hq, hp⟩
  · rw [hq] at hcall
    exact .inl ⟨hp, hcall⟩
  · rw [hq, Int.zero_add] at hcall
    refine .inr ⟨j, by omega, ?_, hcall⟩
    rw [hp, List.getElem_take, rd_ge l j (by omega)]
theorem ok_bad {l : List SC} {i : Nat} (h : badB l i = true) : okB l i = false := by unfold okB; rw [h]; rfl
theorem ok_kid {l : List SC} {i : Nat} (h : badB l i = false) : okB l i = kidB l i := by unfold okB; rw [h]; rfl
theorem kid_zero (l : List SC) : kidB l 0 = decide ((rd_T60 l ((0 : Nat) : Int)).f1 = 0) := rfl
theorem kid_none {l : List SC} {i : Nat} (h0 : 0 < i) (h : parFrom (l.take i) (rd_T60 l i).f1 = none) : kidB l i = false := by
  unfold kidB
  rw [if_neg (by omega), h]
theorem kid_some {l : List SC} {i : Nat} {f : Int} (h0 : 0 < i) (h : parFrom (l.take i) (rd_T60 l i).f1 = some f) : kidB l i = decide (f ≤ (rd_T60 l i).f4) := by
  unfold kidB
  rw [if_neg (by omega), h]
end Go.Proofs.YthcamcmjafhehaaDoor.PFnExactKeepTraces
