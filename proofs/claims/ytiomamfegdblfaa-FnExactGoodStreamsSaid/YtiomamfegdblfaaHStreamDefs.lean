/- What is asked of streams: plain words, and the callees' answers. -/
import Derived.Test.YtiomamfegdblfaaLabFnExactGoodStreams
import Derived.Lib.Hide
namespace Go.Proofs.Ytiomamfegdblfaa.PFnExactGoodStreams
open Go.RowKit Go.Proofs.YtiomamfegdblfaaW.PrintWords Go.Proofs.YtiomamfegdblfaaW.PrintLast Go.Proofs.YtiomamfegdblfaaW.PrintMore Go.Proofs.Ytiomamfegdblfaa.Evs Go.Proofs.Ytiomamfegdblfaa.AFnExactGoodStreams Go.Proofs.Ytiomamfegdblfaa.LabFnExactGoodStreams
set_option linter.unusedVariables false
/-- Short words for the lists of what has come up. -/
abbrev Y : Bool := true
abbrev Z : Bool := false
abbrev SS := S37
abbrev SN := S41
def textB (s : ByteArray) : Bool := decide ((s.size : Int) ≤ 500) && printedB s
def lineBad (l : List SN) (k : Nat) : Bool := !timeB (rd_T41 l (k : Int)).f0 || !textB (rd_T41 l (k : Int)).f1 || (decide (0 < k) && decide ((rd_T41 l (k : Int)).f0 < (rd_T41 l ((k : Int) - 1)).f0))
def lineOk (l : List SN) (k : Nat) : Bool := !lineBad l k
def linesB (l : List SN) : Bool := (List.range' 0 l.length).all (lineOk l)
def headBad (l : List SS) (i : Nat) : Bool := !labelsB (rd_T37 l (i : Int)).f0 || decide ((rd_T37 l (i : Int)).f1.length < 1) || decide (400 < (rd_T37 l (i : Int)).f1.length) || (decide (0 < i) && decide (0 ≤ cmpL (rd_T37 l ((i : Int) - 1)).f0 (rd_T37 l (i : Int)).f0))
def streamOk (l : List SS) (i : Nat) : Bool := !headBad l i && linesB (rd_T37 l (i : Int)).f1
def streamsB (l : List SS) : Bool := decide (l.length ≤ 50) && (List.range' 0 l.length).all (streamOk l)
/-- The labels of each are as long as the law lets in, the texts too. -/
def smallS (l : List SS) : Prop := l.length ≤ 1048576 ∧ ∀ x ∈ l, smallL x.f0 ∧ x.f1.length ≤ 1048576
def smallLB (l : List SL) : Bool := decide (l.length ≤ 1048576) && l.all (fun x => decide (x.f0.size ≤ 1048576) && decide (x.f1.size ≤ 1048576))
def smallSB (l : List SS) : Bool := decide (l.length ≤ 1048576) && l.all (fun x => smallLB x.f0 && decide (x.f1.length ≤ 1048576))
theorem smallLB_iff (l : List SL) : smallLB l = true ↔ smallL l := by
  unfold smallLB smallL
  simp only [Bool.and_eq_true, decide_eq_true_eq, List.all_eq_true]
theorem smallSB_iff (l : List SS) : smallSB l = true ↔ smallS l := by
  unfold smallSB smallS
  simp only [Bool.and_eq_true, decide_eq_true_eq, List.all_eq_true, smallLB_iff]
def guardS (l : List SS) : Option Bool := if smallSB l = true then some (streamsB l) else none
def spec_GoodStreams.f (l0 : List SS) : Option Bool := guardS l0
def impl_GoodStreams.f (l0 : List SS) : Option Bool := guardS l0
theorem guardS_some {l : List SS} {r : Bool} (h : guardS l = some r) : smallS l ∧ streamsB l = r := by
  unfold guardS at h
  by_cases hs : smallSB l = true
  · rw [if_pos hs] at h
    exact ⟨(smallSB_iff l).1 hs, Option.some.inj h⟩
  · rw [if_neg hs] at h
    exact absurd h (by simp)
theorem rdS (l : List SS) (i : Nat) (h : i < l.length) : rd_T37 l (i : Int) = l[i] := getD_get _ l i h
theorem rdN (l : List SN) (i : Nat) (h : i < l.length) : rd_T41 l (i : Int) = l[i] := getD_get _ l i h
theorem small_at {l : List SS} (h : smallS l) (i : Nat) (hi : i < l.length) : smallL (rd_T37 l (i : Int)).f0 := by
  rw [rdS l i hi]
  exact (h.2 _ (List.getElem_mem hi)).1
theorem small_prev {l : List SS} (h : smallS l) (i : Nat) (h0 : 0 < i) (hi : i < l.length) : smallL (rd_T37 l ((i : Int) - 1)).f0 := by
  rw [show (i : Int) - 1 = ((i - 1 : Nat) : Int) by omega]
  exact small_at h (i - 1) (by omega)
theorem prev_facts {i n : Nat} (h0 : 0 < i) (h : (i : Int) < (n : Int)) (hn : n ≤ 400) : IntKind.i64.wrap ((i : Int) - 1) = (i : Int) - 1 ∧ 0 ≤ (i : Int) - 1 ∧ (i : Int) - 1 < (n : Int) ∧ wrap64 ((i : Int) - 1) = (i : Int) - 1 :=
  ⟨(i64_w _).trans (w64 (by omega) (by omega)), by omega, by omega, w64 (by omega) (by omega)⟩
theorem specLabelsCall {l : List SL} (hs : smallL l) {A : Option Addr} {c : Nat} {w : World} (hC : Kd.C k49 w A l.length l) (hc : l.length ≤ c) {b : Bool} (hb : labelsB l = b) (W : World) (hW : Below w.heap.size w W) :
    Calls Try.prog 10 #[.slice A l.length c] W fun e w' => e = .returned (.bool b) ∧ Below W.heap.size W w' := by
  obtain ⟨k, h⟩ := EvP.rounds (specLabels_ev l hs)
  rw [← hb]
  exact spec_GoodLabels.calls k A c l _ W (Kd.C_below hC hW) hc h
theorem implLabelsCall {l : List SL} {A : Option Addr} {c : Nat} {w : World} (hC : Kd.C k49 w A l.length l) (hc : l.length ≤ c) {b : Bool} (hb : labelsB l = b) (W : World) (hW : Below w.heap.size w W) :
    Calls Try.prog 15 #[.slice A l.length c] W fun e w' => e = .returned (.bool b) ∧ Below W.heap.size W w' := by
  obtain ⟨k, h⟩ := EvP.rounds (implLabels_ev l)
  rw [← hb]
  exact impl_GoodLabels.calls k A c l _ W (Kd.C_below hC hW) hc h
theorem specCmpCall {a b : List SL} (ha : smallL a) (hb : smallL b) {A B : Option Addr} {c d : Nat} {w : World} (hA : Kd.C k49 w A a.length a) (hc : a.length ≤ c) (hB : Kd.C k49 w B b.length b) (hd : b.length ≤ d) (W : World) (hW : Below w.heap.size w W) :
    Calls Try.prog 11 #[.slice A a.length c, .slice B b.length d] W fun e w' => e = .returned (.int .i64 (cmpL a b)) ∧ Below W.heap.size W w' := by
  obtain ⟨k, h⟩ := EvP.rounds (specCmp_ev a b ha hb)
  exact (spec_l2Cmp.calls k A c a B d b _ W (Kd.C_below hA hW) hc (Kd.C_below hB hW) hd h).mono fun e w' ⟨he, hd⟩ => ⟨he, hd.below⟩
theorem implCmpCall {a b : List SL} (ha : smallL a) (hb : smallL b) {A B : Option Addr} {c d : Nat} {w : World} (hA : Kd.C k49 w A a.length a) (hc : a.length ≤ c) (hB : Kd.C k49 w B b.length b) (hd : b.length ≤ d) (W : World) (hW : Below w.heap.size w W) :
    Calls Try.prog 16 #[.slice A a.length c, .slice B b.length d] W fun e w' => e = .returned (.int .i64 (cmpL a b)) ∧ Below W.heap.size W w' := by
  obtain ⟨k, h⟩ := EvP.rounds (implCmp_ev a b ha.1)
  exact impl_compare.calls k A c a B d b _ W (Kd.C_below hA hW) hc (Kd.C_below hB hW) hd h
/-- What a region's worlds keep: two cells of the copy, the one ahead's labels, what lay there when the call began, the copy's block. -/
theorem keepS {w0 W W' : World} {g : Nat} {o : Obj} {a0 a1 a2 : Addr} {v0 v1 v2 : Value} (h : W.cell? a0 = some v0 ∧ W.cell? a1 = some v1 ∧ W.cell? a2 = some v2 ∧ Below w0.heap.size w0 W ∧ W.heap[g]? = some o) (hb : Below W.heap.size W W') :
    W'.cell? a0 = some v0 ∧ W'.cell? a1 = some v1 ∧ W'.cell? a2 = some v2 ∧ Below w0.heap.size w0 W' ∧ W'.heap[g]? = some o :=
  ⟨pw_cell_below hb h.1, pw_cell_below hb h.2.1, pw_cell_below hb h.2.2.1, below_step h.2.2.2.1 hb, (hb.block g (blk_lt h.2.2.2.2)).trans h.2.2.2.2⟩
theorem specTime_of (t : Int) {b : Bool} (h : timeB t = b) (w : World) : Calls Try.prog 12 #[.int .i64 t] w fun e w' => e = .returned (.bool b) ∧ ∃ m, w' = w.drewN m := by
  rw [← h]
  exact (spec_l3Time.calls t _ w (spec_l3Time_ev t)).mono fun e w' ⟨he, hd⟩ => ⟨he, hd.out⟩
theorem implTime_of (t : Int) {b : Bool} (h : timeB t = b) (w : World) : Calls Try.prog 17 #[.int .i64 t] w fun e w' => e = .returned (.bool b) ∧ ∃ m, w' = w.drewN m := by
  rw [← h]
  exact (impl_isTime.calls t _ w (impl_isTime_ev t)).mono fun e w' ⟨he, hd⟩ => ⟨he, hd.out⟩
theorem specText_of (s : ByteArray) {b : Bool} (h : textB s = b) (w : World) : Calls Try.prog 13 #[.string s, .int .i64 500] w fun e w' => e = .returned (.bool b) ∧ ∃ m, w' = w.drewN m := by
  obtain ⟨k, hk⟩ := EvP.rounds (l22Text_ev s 500 (by omega))
  rw [← h]
  exact (spec_l22Text.calls k s 500 _ w hk).mono fun e w' ⟨he, hd⟩ => ⟨he, hd.out⟩
theorem implText_of (s : ByteArray) {b : Bool} (h : textB s = b) (w : World) : Calls Try.prog 18 #[.string s, .int .i64 500] w fun e w' => e = .returned (.bool b) ∧ ∃ m, w' = w.drewN m := by
  obtain ⟨k, hk⟩ := EvP.rounds (implPrinted_ev s 500 (by omega))
  rw [← h]
  exact (impl_printed.calls k s 500 _ w hk).mono fun e w' ⟨he, hd⟩ => ⟨he, hd.out⟩
theorem head_ok {l : List SS} {i : Nat} (h : headBad l i = false) : streamOk l i = linesB (rd_T37 l (i : Int)).f1 := by unfold streamOk; rw [h]; rfl
theorem head_bad {l : List SS} {i : Nat} (h : headBad l i = true) : streamOk l i = false := by unfold streamOk; rw [h]; rfl
theorem head_len {l : List SS} {i : Nat} (h : headBad l i = false) : (rd_T37 l (i : Int)).f1.length ≤ 400 := by
  unfold headBad at h
  simp only [Bool.or_eq_false_iff] at h
  have := of_decide_eq_false h.1.2
  omega
theorem line_bad {l : List SN} {k : Nat} (h : lineBad l k = true) : lineOk l k = false := by unfold lineOk; rw [h]; rfl
theorem line_ok {l : List SN} {k : Nat} (h : lineBad l k = false) : lineOk l k = true := by unfold lineOk; rw [h]; rfl
end Go.Proofs.Ytiomamfegdblfaa.PFnExactGoodStreams
