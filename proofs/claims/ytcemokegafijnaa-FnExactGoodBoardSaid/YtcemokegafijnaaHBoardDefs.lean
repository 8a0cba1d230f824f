/- What is asked of boards: plain words, and the callees' answers. -/
import Derived.Test.YtcemokegafijnaaTxtFnExactGoodBoard
import Derived.Test.YtcemokegafijnaaPFnExactGoodBoardx3
import Derived.Test.YtcemokegafijnaaPFnExactGoodBoardx5
import Derived.Test.YtcemokegafijnaaPFnExactGoodBoardx2
import Derived.Test.YtcemokegafijnaaPFnExactGoodBoardx4
import Derived.WalkKit
import Derived.KernelRfl
import Derived.Deep.LoopGhost
namespace Go.Proofs.Ytcemokegafijnaa.PFnExactGoodBoard
open Go.RowKit Go.Proofs.YtcemokegafijnaaW.PrintWords Go.Proofs.YtcemokegafijnaaW.PrintLast Go.Proofs.YtcemokegafijnaaW.PrintMore Go.Proofs.Ytcemokegafijnaa.Evs Go.Proofs.Ytcemokegafijnaa.AFnExactGoodBoard Go.Proofs.Ytcemokegafijnaa.TxtFnExactGoodBoard
set_option linter.unusedVariables false
set_option linter.unusedSimpArgs false
abbrev SV := S39
abbrev SP := S46
abbrev SK := S62
/-- The text at a place. -/
abbrev rdT (l : List ByteArray) (i : Int) : ByteArray := rdOf ByteArray.empty l i
/-! Rising texts -/
def riseOk (l : List ByteArray) (j : Nat) : Bool := Op.bytesLess (rdT l ((j : Int) - 1)).toList (rdT l (j : Int)).toList
def risingB (l : List ByteArray) : Bool := (List.range' 1 (l.length - 1)).all (riseOk l)
theorem implRising_loop (l : List ByteArray) (hl : l.length ≤ 1048576) : ∀ (d i : Nat), 1 ≤ i → i ≤ 1048577 → (i + d = l.length ∨ d = 0 ∧ l.length ≤ i) → EvP (fun k => impl_rising_string.l0 k l (i : Int)) (fun r => r = (List.range' i d).all (riseOk l)) := by
  intro d
  induction d with
  | zero =>
    intro i h1 h2 h
    refine EvP.step ?_
    simp only [impl_rising_string.l0]
    exact EvP.neg (by omega) (EvP.now rfl)
  | succ d ih =>
    intro i h1 h2 h
    have hi : i < l.length := by omega
    refine EvP.step ?_
    simp only [impl_rising_string.l0, wrap_succ hi hl, show wrap64 ((i : Int) - 1) = (i : Int) - 1 from w64 (by omega) (by omega)]
    rw [range'_all]
    refine EvP.pos (by omega) (EvP.pos (by omega) (EvP.pos (by omega) (EvP.pos (by omega) (EvP.ite (fun h => ?_) (fun h => EvP.now ?_)))))
    · rw [show riseOk l i = true from h, Bool.true_and]
      exact ih (i + 1) (by omega) (by omega) (by omega)
    · rw [show riseOk l i = false from Bool.eq_false_iff.2 h]
      rfl
theorem implRising_ev (l : List ByteArray) (hl : l.length ≤ 1048576) : EvP (fun k => impl_rising_string.f k l) (fun r => r = risingB l) := by
  unfold impl_rising_string.f risingB
  exact implRising_loop l hl (l.length - 1) 1 (by omega) (by omega) (by omega)
theorem rdT_small {l : List ByteArray} (hs : ∀ s ∈ l, s.size ≤ 1048576) (j : Nat) (h : j < l.length) : (rdT l (j : Int)).size ≤ 1048576 := by
  rw [show rdT l (j : Int) = l[j] from rdOf_get _ l j h]
  exact hs _ (List.getElem_mem h)
theorem specRising_loop (l : List ByteArray) (hl : l.length ≤ 1048576) (hs : ∀ s ∈ l, s.size ≤ 1048576) : ∀ (d i : Nat), 1 ≤ i → i ≤ 1048577 → (i + d = l.length ∨ d = 0 ∧ l.length ≤ i) → EvP (fun k => spec_l2Rising.l0 k l (i : Int)) (fun r => r = (List.range' i d).all (riseOk l)) := by
  intro d
  induction d with
  | zero =>
    intro i h1 h2 h
    refine EvP.step ?_
    simp only [spec_l2Rising.l0]
    exact EvP.neg (by omega) (EvP.now rfl)
  | succ d ih =>
    intro i h1 h2 h
    have hi : i < l.length := by omega
    refine EvP.step ?_
    simp only [spec_l2Rising.l0, wrap_succ hi hl, show wrap64 ((i : Int) - 1) = (i : Int) - 1 from w64 (by omega) (by omega)]
    rw [range'_all]
    have hp : (rdT l ((i : Int) - 1)).size ≤ 1048576 := by
      rw [show (i : Int) - 1 = ((i - 1 : Nat) : Int) by omega]
      exact rdT_small hs (i - 1) (by omega)
    refine EvP.pos (by omega) (EvP.pos (by omega) (EvP.pos (by omega) (EvP.pos (by omega) (EvP.bind (cmpText_ev _ _ hp (rdT_small hs i hi)) (fun t ht => ?_)))))
    subst ht
    refine EvP.ite (fun h => EvP.now ?_) (fun h => ?_)
    · rw [show riseOk l i = false from Bool.eq_false_iff.2 (fun hq => absurd ((cmpT_neg _ _).2 hq) (Int.not_lt.2 h))]
      rfl
    · rw [show riseOk l i = true from (cmpT_neg _ _).1 (Int.not_le.1 h), Bool.true_and]
      exact ih (i + 1) (by omega) (by omega) (by omega)
theorem specRising_ev (l : List ByteArray) (hl : l.length ≤ 1048576) (hs : ∀ s ∈ l, s.size ≤ 1048576) : EvP (fun k => spec_l2Rising.f k l) (fun r => r = risingB l) := by
  unfold spec_l2Rising.f risingB
  exact specRising_loop l hl hs (l.length - 1) 1 (by omega) (by omega) (by omega)
/-! Colours -/
def colOk (l : List SK) (j : Nat) : Bool := nameB (rd_T62 l (j : Int)).f1 && !(decide (0 < j) && decide ((rd_T62 l (j : Int)).f0 ≤ (rd_T62 l ((j : Int) - 1)).f0))
def coloursB (l : List SK) : Bool := (List.range' 0 l.length).all (colOk l) && decide (l.length ≤ 10)
theorem col_no {l : List SK} {i : Nat} (h : nameB (rd_T62 l (i : Int)).f1 = false) : colOk l i = false := by unfold colOk; rw [h]; rfl
theorem col_first {l : List SK} {i : Nat} (h : nameB (rd_T62 l (i : Int)).f1 = true) (h0 : ¬ 0 < i) : colOk l i = true := by unfold colOk; rw [h, decide_eq_false h0]; rfl
theorem col_next {l : List SK} {i : Nat} (h : nameB (rd_T62 l (i : Int)).f1 = true) (h0 : 0 < i) : colOk l i = !decide ((rd_T62 l (i : Int)).f0 ≤ (rd_T62 l ((i : Int) - 1)).f0) := by unfold colOk; rw [h, decide_eq_true h0]; rfl
theorem specCols_loop (l : List SK) (hl : l.length ≤ 1048576) : ∀ (d i : Nat), i + d = l.length → EvP (fun k => spec_l25Colours.l0 k l l (l.length : Int) (i : Int)) (fun r => r = ((List.range' i d).all (colOk l) && decide (l.length ≤ 10))) := by
  intro d
  induction d with
  | zero =>
    intro i h
    refine EvP.step ?_
    simp only [spec_l25Colours.l0]
    refine EvP.neg (by omega) (EvP.now ?_)
    show decide _ = (true && _)
    rw [Bool.true_and]
    exact decide_eq_decide.2 (by omega)
  | succ d ih =>
    intro i h
    have hi : i < l.length := by omega
    refine EvP.step ?_
    simp only [spec_l25Colours.l0, wrap_succ hi hl]
    rw [range'_all]
    refine EvP.pos (by omega) (EvP.pos (by omega) (EvP.pos (by omega) (EvP.bind (spec_l2Name_ev _) (fun t ht => ?_))))
    subst ht
    refine EvP.ite (fun hn => EvP.ite (fun h0 => ?_) (fun h0 => ?_)) (fun hn => EvP.now ?_)
    · rw [show wrap64 ((i : Int) - 1) = (i : Int) - 1 from w64 (by omega) (by omega), col_next hn (by omega)]
      refine EvP.pos (by omega) (EvP.pos (by omega) (EvP.ite (fun hc => EvP.now ?_) (fun hc => ?_)))
      · rw [decide_eq_true (show (rd_T62 l (i : Int)).f0 ≤ (rd_T62 l ((i : Int) - 1)).f0 from hc)]
        rfl
      · rw [decide_eq_false (show ¬ (rd_T62 l (i : Int)).f0 ≤ (rd_T62 l ((i : Int) - 1)).f0 from hc)]
        exact ih (i + 1) (by omega)
    · rw [col_first hn (by omega), Bool.true_and]
      exact ih (i + 1) (by omega)
    · rw [col_no (Bool.eq_false_iff.2 hn)]
      rfl
theorem specCols_ev (l : List SK) (hl : l.length ≤ 1048576) : EvP (fun k => spec_l25Colours.f k l) (fun r => r = coloursB l) := by
  unfold spec_l25Colours.f coloursB
  exact specCols_loop l hl l.length 0 (by omega)
theorem implCols_loop (l : List SK) (hl : l.length ≤ 1048576) : ∀ (d i : Nat), i + d = l.length → EvP (fun k => impl_goodColours.l0 k l l (l.length : Int) (i : Int)) (fun r => r = (List.range' i d).all (colOk l)) := by
  intro d
  induction d with
  | zero =>
    intro i h
    refine EvP.step ?_
    simp only [impl_goodColours.l0]
    exact EvP.neg (by omega) (EvP.now rfl)
  | succ d ih =>
    intro i h
    have hi : i < l.length := by omega
    refine EvP.step ?_
    simp only [impl_goodColours.l0, wrap_succ hi hl]
    rw [range'_all]
    refine EvP.pos (by omega) (EvP.pos (by omega) (EvP.pos (by omega) (EvP.bind (impl_isName_ev _) (fun t ht => ?_))))
    subst ht
    refine EvP.ite (fun hn => EvP.ite (fun h0 => ?_) (fun h0 => ?_)) (fun hn => EvP.now ?_)
    · rw [show wrap64 ((i : Int) - 1) = (i : Int) - 1 from w64 (by omega) (by omega), col_next hn (by omega)]
      refine EvP.pos (by omega) (EvP.pos (by omega) (EvP.ite (fun hc => EvP.now ?_) (fun hc => ?_)))
      · rw [decide_eq_true (show (rd_T62 l (i : Int)).f0 ≤ (rd_T62 l ((i : Int) - 1)).f0 from hc)]
        rfl
      · rw [decide_eq_false (show ¬ (rd_T62 l (i : Int)).f0 ≤ (rd_T62 l ((i : Int) - 1)).f0 from hc)]
        exact ih (i + 1) (by omega)
    · rw [col_first hn (by omega), Bool.true_and]
      exact ih (i + 1) (by omega)
    · rw [col_no (Bool.eq_false_iff.2 hn)]
      rfl
theorem implCols_ev (l : List SK) (hl : l.length ≤ 1048576) : EvP (fun k => impl_goodColours.f k l) (fun r => r = coloursB l) := by
  unfold impl_goodColours.f coloursB
  refine EvP.ite (fun h => EvP.now (by rw [decide_eq_false (by omega : ¬ l.length ≤ 10), Bool.and_false])) (fun h => ?_)
  rw [decide_eq_true (by omega : l.length ≤ 10), Bool.and_true]
  exact implCols_loop l hl l.length 0 (by omega)
/-! Boards -/
def text40 (s : ByteArray) : Bool := decide ((s.size : Int) ≤ 40) && printedB s
def anyBad (l : List ByteArray) : Bool := l.any (fun s => !text40 s)
def headBad (l : List SV) (i : Nat) : Bool := !nameB (rd_T39 l (i : Int)).f0 || !nameB (rd_T39 l (i : Int)).f1 || decide (10 < (rd_T39 l (i : Int)).f2.length) || !risingB (rd_T39 l (i : Int)).f2 || (decide (0 < i) && !Op.bytesLess (rd_T39 l ((i : Int) - 1)).f0.toList (rd_T39 l (i : Int)).f0.toList)
def varBad (l : List SV) (i : Nat) : Bool := headBad l i || anyBad (rd_T39 l (i : Int)).f2
def varOk (l : List SV) (i : Nat) : Bool := !varBad l i
def panelBad (x : SP) : Bool := !text40 x.f0 || decide (4000 < x.f1.size) || decide (x.f2 < 1) || decide (5 < x.f2) || !coloursB x.f3
def panelOk (l : List SP) (i : Nat) : Bool := !panelBad (rd_T46 l (i : Int))
def boardB (v : List SV) (p : List SP) : Bool := decide (v.length ≤ 10) && decide (p.length ≤ 20) && ((List.range' 0 v.length).all (varOk v) && (List.range' 0 p.length).all (panelOk p))
/-- The texts and rows are as long as the law lets in. -/
def smallV (x : SV) : Prop := x.f0.size ≤ 1048576 ∧ x.f2.length ≤ 1048576 ∧ ∀ s ∈ x.f2, s.size ≤ 1048576
def smallVB (x : SV) : Bool := decide (x.f0.size ≤ 1048576) && decide (x.f2.length ≤ 1048576) && x.f2.all (fun s => decide (s.size ≤ 1048576))
theorem smallVB_iff (x : SV) : smallVB x = true ↔ smallV x := by
  unfold smallVB smallV
  simp only [Bool.and_eq_true, decide_eq_true_eq, List.all_eq_true, and_assoc]
def smallW (v : List SV) (p : List SP) : Prop := (∀ x ∈ v, smallV x) ∧ ∀ x ∈ p, x.f3.length ≤ 1048576
def smallWB (v : List SV) (p : List SP) : Bool := v.all smallVB && p.all (fun x => decide (x.f3.length ≤ 1048576))
theorem smallWB_iff (v : List SV) (p : List SP) : smallWB v p = true ↔ smallW v p := by
  unfold smallWB smallW
  simp only [Bool.and_eq_true, decide_eq_true_eq, List.all_eq_true, smallVB_iff]
def guardW (v : List SV) (p : List SP) : Option Bool := if smallWB v p = true then some (boardB v p) else none
def spec_GoodBoard.f (v : List SV) (p : List SP) : Option Bool := guardW v p
def impl_GoodBoard.f (v : List SV) (p : List SP) : Option Bool := guardW v p
theorem guardW_some {v : List SV} {p : List SP} {r : Bool} (h : guardW v p = some r) : smallW v p ∧ boardB v p = r := by
  unfold guardW at h
  by_cases hs : smallWB v p = true
  · rw [if_pos hs] at h
    exact ⟨(smallWB_iff v p).1 hs, Option.some.inj h⟩
  · rw [if_neg hs] at h
    exact absurd h (by simp)
theorem small_var {v : List SV} {p : List SP} (h : smallW v p) (i : Nat) (hi : i < v.length) : smallV (rd_T39 v (i : Int)) := by
  rw [show rd_T39 v (i : Int) = v[i] from getD_get _ v i hi]
  exact h.1 _ (List.getElem_mem hi)
theorem small_prev {v : List SV} {p : List SP} (h : smallW v p) (i : Nat) (h0 : 0 < i) (hi : i < v.length) : smallV (rd_T39 v ((i : Int) - 1)) := by
  rw [show (i : Int) - 1 = ((i - 1 : Nat) : Int) by omega]
  exact small_var h (i - 1) (by omega)
theorem small_panel {v : List SV} {p : List SP} (h : smallW v p) (i : Nat) (hi : i < p.length) : (rd_T46 p (i : Int)).f3.length ≤ 1048576 := by
  rw [show rd_T46 p (i : Int) = p[i] from getD_get _ p i hi]
  exact h.2 _ (List.getElem_mem hi)
theorem prev_facts {i n : Nat} (h0 : 0 < i) (h : (i : Int) < (n : Int)) (hn : n ≤ 400) : IntKind.i64.wrap ((i : Int) - 1) = (i : Int) - 1 ∧ 0 ≤ (i : Int) - 1 ∧ (i : Int) - 1 < (n : Int) ∧ wrap64 ((i : Int) - 1) = (i : Int) - 1 :=
  ⟨(i64_w _).trans (w64 (by omega) (by omega)), by omega, by omega, w64 (by omega) (by omega)⟩
theorem cmp_geq (a b : List UInt8) : (!Op.bytesLess a b) = decide (0 ≤ cmpT a b) := by
  cases h : Op.bytesLess a b with
  | true => exact (decide_eq_false (Int.not_le.2 ((cmpT_neg a b).2 h))).symm
  | false => exact (decide_eq_true (Int.not_lt.1 (fun h' => by rw [(cmpT_neg a b).1 h'] at h; exact Bool.noConfusion h))).symm
/-! The callees -/
theorem specName_of (s : ByteArray) {b : Bool} (h : nameB s = b) (w : World) : Calls Try.prog 11 #[.string s] w fun e w' => e = .returned (.bool b) ∧ ∃ m, w' = w.drewN m := by
  obtain ⟨k, hk⟩ := EvP.rounds (spec_l2Name_ev s)
  rw [← h]
  exact (spec_l2Name.calls k s _ w hk).mono fun e w' ⟨he, hd⟩ => ⟨he, hd.out⟩
theorem implName_of (s : ByteArray) {b : Bool} (h : nameB s = b) (w : World) : Calls Try.prog 18 #[.string s] w fun e w' => e = .returned (.bool b) ∧ ∃ m, w' = w.drewN m := by
  obtain ⟨k, hk⟩ := EvP.rounds (impl_isName_ev s)
  rw [← h]
  exact (impl_isName.calls k s _ w hk).mono fun e w' ⟨he, hd⟩ => ⟨he, hd.out⟩
theorem specText_of (s : ByteArray) {b : Bool} (h : text40 s = b) (w : World) : Calls Try.prog 14 #[.string s, .int .i64 40] w fun e w' => e = .returned (.bool b) ∧ ∃ m, w' = w.drewN m := by
  obtain ⟨k, hk⟩ := EvP.rounds (l22Text_ev s 40 (by omega))
  rw [← h]
  exact (spec_l22Text.calls k s 40 _ w hk).mono fun e w' ⟨he, hd⟩ => ⟨he, hd.out⟩
theorem implText_of (s : ByteArray) {b : Bool} (h : text40 s = b) (w : World) : Calls Try.prog 22 #[.string s, .int .i64 40] w fun e w' => e = .returned (.bool b) ∧ ∃ m, w' = w.drewN m := by
  obtain ⟨k, hk⟩ := EvP.rounds (implPrinted_ev s 40 (by omega))
  rw [← h]
  exact (impl_printed.calls k s 40 _ w hk).mono fun e w' ⟨he, hd⟩ => ⟨he, hd.out⟩
theorem specCmp_of (a b : ByteArray) (ha : a.size ≤ 1048576) (hb : b.size ≤ 1048576) (w : World) : Calls Try.prog 13 #[.string a, .string b] w fun e w' => e = .returned (.int .i64 (cmpT a.toList b.toList)) ∧ ∃ m, w' = w.drewN m := by
  obtain ⟨k, hk⟩ := EvP.rounds (cmpText_ev a b ha hb)
  exact (spec_l2CmpText.calls k a b _ w hk).mono fun e w' ⟨he, hd⟩ => ⟨he, hd.out⟩
theorem specRising_of {l : List ByteArray} (hl : l.length ≤ 1048576) (hs : ∀ s ∈ l, s.size ≤ 1048576) {A : Option Addr} {c : Nat} {w : World} (hC : Kd.C Kd.string w A l.length l) (hc : l.length ≤ c) {b : Bool} (h : risingB l = b) (W : World) (hW : Below w.heap.size w W) :
    Calls Try.prog 12 #[.slice A l.length c] W fun e w' => e = .returned (.bool b) ∧ ∃ m, w' = W.drewN m := by
  obtain ⟨k, hk⟩ := EvP.rounds (specRising_ev l hl hs)
  rw [← h]
  exact (spec_l2Rising.calls k A c l _ W (Kd.C_below hC hW) hc hk).mono fun e w' ⟨he, hd⟩ => ⟨he, hd.out⟩
theorem implRising_of {l : List ByteArray} (hl : l.length ≤ 1048576) {A : Option Addr} {c : Nat} {w : World} (hC : Kd.C Kd.string w A l.length l) (hc : l.length ≤ c) {b : Bool} (h : risingB l = b) (W : World) (hW : Below w.heap.size w W) :
    Calls Try.prog 19 #[.slice A l.length c] W fun e w' => e = .returned (.bool b) ∧ ∃ m, w' = W.drewN m := by
  obtain ⟨k, hk⟩ := EvP.rounds (implRising_ev l hl)
  rw [← h]
  exact (impl_rising_string.calls k A c l _ W (Kd.C_below hC hW) hc hk).mono fun e w' ⟨he, hd⟩ => ⟨he, hd.out⟩
theorem specCols_of {l : List SK} (hl : l.length ≤ 1048576) {A : Option Addr} {c : Nat} {w : World} (hC : Kd.C k62 w A l.length l) (hc : l.length ≤ c) {b : Bool} (h : coloursB l = b) (W : World) (hW : Below w.heap.size w W) :
    Calls Try.prog 15 #[.slice A l.length c] W fun e w' => e = .returned (.bool b) ∧ Below W.heap.size W w' := by
  obtain ⟨k, hk⟩ := EvP.rounds (specCols_ev l hl)
  rw [← h]
  exact spec_l25Colours.calls k A c l _ W (Kd.C_below hC hW) hc hk
theorem implCols_of {l : List SK} (hl : l.length ≤ 1048576) {A : Option Addr} {c : Nat} {w : World} (hC : Kd.C k62 w A l.length l) (hc : l.length ≤ c) {b : Bool} (h : coloursB l = b) (W : World) (hW : Below w.heap.size w W) :
    Calls Try.prog 23 #[.slice A l.length c] W fun e w' => e = .returned (.bool b) ∧ Below W.heap.size W w' := by
  obtain ⟨k, hk⟩ := EvP.rounds (implCols_ev l hl)
  rw [← h]
  exact impl_goodColours.calls k A c l _ W (Kd.C_below hC hW) hc hk
theorem any_drop (l : List ByteArray) (i : Nat) (h : i < l.length) : anyBad (l.drop i) = (!text40 (rdT l (i : Int)) || anyBad (l.drop (i + 1))) := by
  rw [List.drop_eq_getElem_cons h, show rdT l (i : Int) = l[i] from rdOf_get _ l i h]
  rfl
theorem var_head {l : List SV} {i : Nat} (h : headBad l i = true) : varOk l i = false := by unfold varOk varBad; rw [h]; rfl
theorem var_texts {l : List SV} {i : Nat} (h : headBad l i = false) : varOk l i = !anyBad (rd_T39 l (i : Int)).f2 := by unfold varOk varBad; rw [h]; rfl
theorem head_len {l : List SV} {i : Nat} (h : headBad l i = false) : (rd_T39 l (i : Int)).f2.length ≤ 400 := by
  unfold headBad at h
  simp only [Bool.or_eq_false_iff] at h
  have := of_decide_eq_false h.1.1.2
  omega
theorem var_bad {l : List SV} {i : Nat} (h : varBad l i = true) : varOk l i = false := by unfold varOk; rw [h]; rfl
theorem var_ok {l : List SV} {i : Nat} (h : varBad l i = false) : varOk l i = true := by unfold varOk; rw [h]; rfl
theorem panel_bad {l : List SP} {i : Nat} (h : panelBad (rd_T46 l (i : Int)) = true) : panelOk l i = false := by unfold panelOk; rw [h]; rfl
theorem panel_ok {l : List SP} {i : Nat} (h : panelBad (rd_T46 l (i : Int)) = false) : panelOk l i = true := by unfold panelOk; rw [h]; rfl
end Go.Proofs.Ytcemokegafijnaa.PFnExactGoodBoard
