/- The program's sampleAt over rising samples, through sort.Search: what it computes, as the printed functions want their callees. -/
import Derived.Test.YtedfbdholjjflaaPFnStrangex0
import Derived.Shelf.Abstract
import Derived.WalkKit
import Derived.KernelRfl
import Derived.Deep.LoopGhost
namespace Go.Proofs.Ytedfbdholjjflaa.PFnStrange
open Go.RowKit Go.Shelf Go.Proofs.YtedfbdholjjflaaW.PrintWords Go.Proofs.YtedfbdholjjflaaW.PrintLast Go.Proofs.YtedfbdholjjflaaW.PrintMore
set_option linter.unusedVariables false
set_option linter.unusedSimpArgs false
abbrev SM := S29
abbrev rdM (l : List SM) (i : Int) : SM := rd_T29 l i
def sortedM (l : List SM) : Bool := decide (l.Pairwise (fun a b => a.f0 < b.f0))
/-- How many are not above a time. -/
def cntT (l : List SM) (t : Int) : Nat := (l.filter (fun x => decide (x.f0 ≤ t))).length
def atX (x : SM) (t look : Int) : Int × Int × Bool :=
  if x.f0 < wrap64 (t - look) then (0, 0, false) else if x.f1 = -9223372036854775808 then (0, 0, false) else (x.f0, x.f1, true)
def atB (l : List SM) (t look : Int) : Int × Int × Bool := if cntT l t = 0 then (0, 0, false) else atX (rdM l ((cntT l t : Int) - 1)) t look
def impl_sampleAt.f (l : List SM) (t look : Int) : Option (Int × Int × Bool) := if (sortedM l && decide (l.length ≤ 1048576)) = true then some (atB l t look) else none
theorem wS64 {x : Int} (h0 : -9223372036854775808 ≤ x) (h1 : x ≤ 9223372036854775807) : wrap64 x = x := by
  unfold wrap64
  omega
set_option maxHeartbeats 4000000 in
set_option maxRecDepth 100000 in
theorem search_of (F : Nat) (caps : Array Value) (eg : ∀ args w, (callFunc F args).run Try.prog w = .ok (.enter F args) w) (n : Nat) (p : Nat → Bool) (m : Nat) (hm : m ≤ n) (hlo : ∀ i, i < m → p i = false) (hhi : ∀ i, m ≤ i → i < n → p i = true) (hn : n ≤ 1048576) {w : World}
    (hF : ∀ i, i < n → ∀ W : World, Below w.heap.size w W → Calls Try.prog F (#[.int .i64 (i : Int)] ++ caps) W fun e W' => e = .returned (.bool (p i)) ∧ Below W.heap.size W W') :
    Calls Try.prog 35 #[.int .i64 (n : Int), .func (.func F) #[] caps] w fun e w' => e = .returned (.int .i64 (m : Int)) ∧ Below w.heap.size w w' := by
  have HF := Aside0.mk hF
  have HLO := Aside0.mk hlo
  have HHI := Aside0.mk hhi
  clear hF hlo hhi
  go_enter Try.func35, Try.ntmps35
  go_wp2
  go_loopg [5, 6] n (fun gg s5 s6 wr => ∃ a b : Nat, a ≤ m ∧ m ≤ b ∧ b ≤ n ∧ b - a ≤ gg ∧ s5 = .int .i64 (a : Int) ∧ s6 = .int .i64 (b : Int) ∧ Aside0 (Below w.heap.size w wr))
  case atStart => exact ⟨0, n, Nat.zero_le _, hm, Nat.le_refl _, by omega, rfl, rfl, ⟨by repeat (first | exact Below.refl _ _ | apply below_alloc | apply pw_below_drewN | apply below_drew1)⟩⟩
  case round =>
    obtain ⟨a, b, ha, hb, hbn, hg, rfl, rfl, HB⟩ := hrel
    by_cases hlt : a < b
    · have hltz : decide ((a : Int) < (b : Int)) = true := decide_eq_true (by omega)
      go_upto_region 4 with (fail)
      have e : ((a : Int) + (b : Int)) / 2 = (((a + b) / 2 : Nat) : Int) := by omega
      rw [e]
      have h1 : a ≤ (a + b) / 2 := by omega
      have h2 : (a + b) / 2 < b := by omega
      clear e
      generalize (a + b) / 2 = h at *
      have HCALL := Aside0.mk (HF.out h (by omega))
      cases hp : p h with
      | false =>
        rw [hp] at HCALL
        have hm2 : h < m := by
          rcases Nat.lt_or_ge h m with h3 | h3
          · exact h3
          · have := HHI.out h h3 (by omega)
            rw [hp] at this
            exact Bool.noConfusion this
        clear hp
        go_wp2_with (go_at_fn F; refine (HCALL.out _ HB.out).mono ?_; rintro e w3 ⟨rfl, hb⟩)
        go_roundg (b - (h + 1))
        case measure => omega
        case rel => exact ⟨h + 1, b, by omega, by omega, by omega, by omega, by go_num, rfl, ⟨HB.out.trans (hb.mono (by have := HB.out.size; omega))⟩⟩
      | true =>
        rw [hp] at HCALL
        have hm2 : m ≤ h := by
          rcases Nat.lt_or_ge h m with h3 | h3
          · have := HLO.out h h3
            rw [hp] at this
            exact Bool.noConfusion this
          · exact h3
        clear hp
        go_wp2_with (go_at_fn F; refine (HCALL.out _ HB.out).mono ?_; rintro e w3 ⟨rfl, hb⟩)
        go_roundg (h - a)
        case measure => omega
        case rel => exact ⟨a, h, by omega, by omega, by omega, by omega, rfl, rfl, ⟨HB.out.trans (hb.mono (by have := HB.out.size; omega))⟩⟩
    · have hab : a = m := by omega
      subst hab
      have hltz : decide ((a : Int) < (b : Int)) = false := decide_eq_false (by omega)
      go_wp2
      go_ret
      exact ⟨rfl, HB.out⟩
set_option maxHeartbeats 4000000 in
set_option maxRecDepth 100000 in
theorem after_of {l : List SM} {t : Int} {A : Option Addr} {c g0 g1 : Nat} {w : World} (hw0 : w.cell? ⟨g0, 0, none⟩ = some (.slice A l.length c)) (hw1 : w.cell? ⟨g1, 0, none⟩ = some (.int .i64 t)) (hC : Kd.C k29 w A l.length l) (i : Nat) (hi : i < l.length) (W : World) (hW : Below w.heap.size w W) :
    Calls Try.prog 36 (#[.int .i64 (i : Int)] ++ #[.pointer (some ⟨g0, 0, none⟩), .pointer (some ⟨g1, 0, none⟩)]) W fun e W' => e = .returned (.bool (decide (t < (rdM l (i : Int)).f0))) ∧ Below W.heap.size W W' := by
  have hw0 := (hW.cell (World.block_lt_of_cell? w _ hw0)).trans hw0
  have hw1 := (hW.cell (World.block_lt_of_cell? w _ hw1)).trans hw1
  have hltz : (i : Int) < (l.length : Int) := by omega
  obtain ⟨ad, rfl, hx0, hx1⟩ := at_T29 hC (i : Int) (by omega) hltz
  rw [Int.toNat_natCast] at hx0 hx1
  replace hx0 := (hW.cell (World.block_lt_of_cell? w _ hx0)).trans hx0
  have HI := Aside0.mk hi
  clear hC hx1 hW hi
  show Calls Try.prog 36 #[.int .i64 (i : Int), .pointer (some ⟨g0, 0, none⟩), .pointer (some ⟨g1, 0, none⟩)] W _
  go_enter Try.func36, Try.ntmps36
  go_wp2
  go_quiet (fail)
  go_wp2
  go_ret
  exact ⟨rfl, by repeat (first | exact Below.refl _ _ | apply pw_below_drewN | apply below_drew1 | apply below_drew)⟩
/-- In a rising list those that are not above a time stand in front. -/
theorem cnt_split (l : List SM) (h : sortedM l = true) (t : Int) : cntT l t ≤ l.length ∧ (∀ i, i < cntT l t → (rdM l (i : Int)).f0 ≤ t) ∧ ∀ i, cntT l t ≤ i → i < l.length → t < (rdM l (i : Int)).f0 := by
  have h := of_decide_eq_true h
  have hg : ∀ (i : Nat) (hi : i < l.length), rdM l (i : Int) = l[i] := fun i hi => by show l.getD _ _ = _; rw [Int.toNat_natCast, List.getD_eq_getElem?_getD, List.getElem?_eq_getElem hi]; rfl
  have key : ∀ (l : List SM), l.Pairwise (fun a b => a.f0 < b.f0) → cntT l t ≤ l.length ∧ (∀ i (hi : i < l.length), i < cntT l t → l[i].f0 ≤ t) ∧ ∀ i (hi : i < l.length), cntT l t ≤ i → t < l[i].f0 := by
    intro l
    induction l with
    | nil => exact fun _ => ⟨Nat.le_refl _, fun i hi => absurd hi (Nat.not_lt_zero _), fun i hi => absurd hi (Nat.not_lt_zero _)⟩
    | cons x xs ih =>
      intro hp
      obtain ⟨hx, hxs⟩ := List.pairwise_cons.1 hp
      obtain ⟨a1, a2, a3⟩ := ih hxs
      by_cases hxt : x.f0 ≤ t
      · have e : cntT (x :: xs) t = cntT xs t + 1 := by
          unfold cntT
          rw [List.filter_cons_of_pos (by exact decide_eq_true hxt), List.length_cons]
        rw [e]
        refine ⟨by rw [List.length_cons]; omega, fun i hi hc => ?_, fun i hi hc => ?_⟩
        · cases i with
          | zero => exact hxt
          | succ i => exact a2 i (by rw [List.length_cons] at hi; omega) (by omega)
        · cases i with
          | zero => omega
          | succ i => exact a3 i (by rw [List.length_cons] at hi; omega) (by omega)
      · have e : cntT (x :: xs) t = 0 := by
          unfold cntT
          rw [List.filter_cons_of_neg (by simpa using hxt), List.filter_eq_nil_iff.2 (fun y hy => by have := hx y hy; simp only [decide_eq_true_eq]; omega)]
          rfl
        rw [e]
        refine ⟨Nat.zero_le _, fun i hi hc => absurd hc (Nat.not_lt_zero _), fun i hi hc => ?_⟩
        cases i with
        | zero => show t < x.f0; omega
        | succ i =>
          have hj : i < xs.length := by rw [List.length_cons] at hi; omega
          have := hx (xs[i]'hj) (List.getElem_mem hj)
          show t < (xs[i]'hj).f0
          omega
  obtain ⟨a1, a2, a3⟩ := key l h
  exact ⟨a1, fun i hi => by rw [hg i (by omega)]; exact a2 i (by omega) hi, fun i hi hl => by rw [hg i hl]; exact a3 i hl hi⟩
theorem three_blocks (w : World) (o0 o1 o2 : Obj) : (((w.alloc o0).alloc o1).alloc o2).heap[w.heap.size]? = some o0 ∧ (((w.alloc o0).alloc o1).alloc o2).heap[w.heap.size + 1]? = some o1 ∧ (((w.alloc o0).alloc o1).alloc o2).heap[w.heap.size + 1 + 1]? = some o2 ∧ Below w.heap.size w (((w.alloc o0).alloc o1).alloc o2) := by
  have sz : ∀ (w : World) (o : Obj), (w.alloc o).heap.size = w.heap.size + 1 := fun w o => by first | rfl | (rw [World.alloc_eq]; exact Array.size_push _) | simp
  have s0 := sz w o0
  have s1 : ((w.alloc o0).alloc o1).heap.size = w.heap.size + 1 + 1 := (sz (w.alloc o0) o1).trans (by rw [s0])
  have b0 := blk_new w o0
  have b0' := (Below.heap_alloc (w.alloc o0) o1 _ (blk_lt b0)).trans b0
  have b0'' := (Below.heap_alloc ((w.alloc o0).alloc o1) o2 _ (blk_lt b0')).trans b0'
  have b1 := blk_new (w.alloc o0) o1
  rw [s0] at b1
  have b1' := (Below.heap_alloc ((w.alloc o0).alloc o1) o2 _ (blk_lt b1)).trans b1
  have b2 := blk_new ((w.alloc o0).alloc o1) o2
  rw [s1] at b2
  exact ⟨b0'', b1', b2, below_alloc (below_alloc (below_alloc (Below.refl _ _) _) _) _⟩
set_option maxHeartbeats 8000000 in
set_option maxRecDepth 100000 in
theorem impl_sampleAt.calls (A0 : Option Addr) (c0 : Nat) (l0 : List SM) (a1 a2 : Int) (r1 r2 : Int) (r3 : Bool) (w : World) (hr0 : Kd.C k29 w A0 l0.length l0) (hc0 : l0.length ≤ c0) (h : impl_sampleAt.f l0 a1 a2 = some (r1, r2, r3)) :
    Calls Try.prog 28 #[.slice A0 l0.length c0, .int .i64 a1, .int .i64 a2] w fun e w' => e = .returned (.tuple #[.agg #[.int .i64 r1, .int .i64 r2], .bool r3]) ∧ Below w.heap.size w w' := by
  unfold impl_sampleAt.f at h
  by_cases hs : (sortedM l0 && decide (l0.length ≤ 1048576)) = true
  · rw [if_pos hs] at h
    have hb := Option.some.inj h
    rw [Bool.and_eq_true] at hs
    have hl := of_decide_eq_true hs.2
    obtain ⟨hm, hlo, hhi⟩ := cnt_split l0 hs.1 a1
    have HC := Aside0.mk hr0
    have HR := Aside0.mk hb
    have HLO := Aside0.mk hlo
    have HHI := Aside0.mk hhi
    clear h hb hs hr0 hlo hhi
    go_enter Try.func28, Try.ntmps28
    go_upto_region 1 with (fail)
    obtain ⟨f0, f1, f2, hB1⟩ := three_blocks w (.cells #[.slice A0 l0.length c0] 23) (.cells #[.int .i64 a1] 3) (.cells #[.int .i64 0, .int .i64 0] 29)
    have HB1 := Aside0.mk hB1
    have HK := Aside0.mk f2
    have hL := (blk_cell f0 0).trans (show _ = some (Value.slice A0 l0.length c0) from rfl)
    have hT := (blk_cell f1 0).trans (show _ = some (Value.int .i64 a1) from rfl)
    generalize ((w.alloc (.cells #[.slice A0 l0.length c0] 23)).alloc (.cells #[.int .i64 a1] 3)).alloc (.cells #[.int .i64 0, .int .i64 0] 29) = W1 at *
    have HS := Aside0.mk (search_of 36 #[.pointer (some ⟨w.heap.size, 0, none⟩), .pointer (some ⟨w.heap.size + 1, 0, none⟩)] (enters_of Try.func36 (by kernel_rfl) rfl) l0.length (fun i => decide (a1 < (rdM l0 (i : Int)).f0)) (cntT l0 a1) hm (fun i hi => decide_eq_false (by have := HLO.out i hi; omega)) (fun i h1 h2 => decide_eq_true (HHI.out i h1 h2)) hl (w := W1) (fun i hi W hW => after_of hL hT (Kd.C_below HC.out HB1.out) i hi W hW))
    have HG := Aside0.mk (show w.heap.size ≤ w.heap.size + 1 + 1 by omega)
    have HL1 := Aside0.mk f0
    have HT1 := Aside0.mk f1
    clear f0 f1 f2 hB1 HLO HHI
    obtain ⟨n, hn⟩ : ∃ n, cntT l0 a1 = n := ⟨_, rfl⟩
    have HN := Aside0.mk hn
    rw [hn] at HS hm
    clear hn
    rcases Nat.eq_zero_or_pos n with hz | hz
    · subst hz
      have HV := Aside0.mk (show (r1, r2, r3) = ((0 : Int), (0 : Int), false) by rw [← HR.out]; unfold atB; rw [HN.out]; rfl)
      clear HR hm hl HN
      go_wp2_with (go_at_call 35; refine HS.out.mono ?_; rintro e w3 ⟨rfl, hb⟩)
      have HB3 := Aside0.mk (below_step HB1.out hb)
      have HK3 := Aside0.mk ((hb.block (w.heap.size + 1 + 1) (blk_lt HK.out)).trans HK.out)
      clear hb HB1 HK hL hT HL1 HT1 HS
      have hz0 : w3.cell? ⟨w.heap.size + 1 + 1, 0, none⟩ = some (.int .i64 0) := (blk_cell HK3.out 0).trans rfl
      have hz1 : w3.cell? ⟨w.heap.size + 1 + 1, 1, none⟩ = some (.int .i64 0) := (blk_cell HK3.out 1).trans rfl
      have hf0 := blk_frozen HK3.out 0
      have hf1 := blk_frozen HK3.out 1
      injection HV.out with e1 e2
      injection e2 with e2 e3
      subst e1 e2 e3
      clear HV
      go_quiet (fail)
      go_wp2
      refine bodyPost_ret (results_ct rfl _ _ (w.heap.size + 1 + 1) 29 #[.int .i64 0, .int .i64 0] (0, 0) _ rfl (by (with_reducible repeat (first | refine blk_drewN ?_ _ | refine blk_drew ?_ | refine blk_alloc ?_ _)); refine blk_put (cs := #[.int .i64 0, .int .i64 0]) ?_ 1 _ rfl; (with_reducible repeat (first | refine blk_drewN ?_ _ | refine blk_drew ?_ | refine blk_alloc ?_ _)); refine blk_put (cs := #[.int .i64 0, .int .i64 0]) ?_ 0 _ rfl; (with_reducible repeat (first | refine blk_drewN ?_ _ | refine blk_drew ?_ | refine blk_alloc ?_ _)); exact HK3.out) Try.underlying29 rfl (by kernel_rfl)) rfl ?_
      exact ⟨rfl, by repeat (first | exact HB3.out | apply below_alloc | apply pw_below_drewN | apply below_drew1 | apply below_drew | refine below_set ?_ HG.out)⟩
    · have hnz : ((n : Int) == 0) = false := beq_eq_false_iff_ne.2 (by omega)
      have hw1 : IntKind.i64.wrap ((n : Int) - 1) = (n : Int) - 1 := (i64_w _).trans (wS64 (by omega) (by omega))
      have hw6 : wrap64 ((n : Int) - 1) = (n : Int) - 1 := wS64 (by omega) (by omega)
      have hw2 : (0 : Int) ≤ (n : Int) - 1 := by omega
      have hw3 : (n : Int) - 1 < (l0.length : Int) := by omega
      have hw5 : (1 : Int) ≤ (n : Int) := by omega
      obtain ⟨tl, htl⟩ : ∃ tl, wrap64 (a1 - a2) = tl := ⟨_, rfl⟩
      have hwt : IntKind.i64.wrap (a1 - a2) = tl := (i64_w _).trans htl
      have HV := Aside0.mk (show (r1, r2, r3) = if (rdM l0 ((n : Int) - 1)).f0 < tl then ((0 : Int), (0 : Int), false) else if (rdM l0 ((n : Int) - 1)).f1 = -9223372036854775808 then (0, 0, false) else ((rdM l0 ((n : Int) - 1)).f0, (rdM l0 ((n : Int) - 1)).f1, true) by rw [← HR.out]; unfold atB; rw [HN.out, if_neg (by omega : ¬ n = 0), ← htl]; rfl)
      obtain ⟨ad, rfl, hx0, hx1⟩ := at_T29 HC.out ((n : Int) - 1) hw2 hw3
      rw [show ((n : Int) - 1).toNat = n - 1 by omega] at hx0 hx1
      clear HR hm hl HN hz htl
      go_wp2_with (go_at_call 35; refine HS.out.mono ?_; rintro e w3 ⟨rfl, hb⟩)
      have HB3 := Aside0.mk (below_step HB1.out hb)
      have HK3 := Aside0.mk ((hb.block (w.heap.size + 1 + 1) (blk_lt HK.out)).trans HK.out)
      have hL3 := (hb.cell (World.block_lt_of_cell? W1 _ hL)).trans hL
      have hT3 := (hb.cell (World.block_lt_of_cell? W1 _ hT)).trans hT
      replace hx0 := (HB3.out.cell (World.block_lt_of_cell? w _ hx0)).trans hx0
      replace hx1 := (HB3.out.cell (World.block_lt_of_cell? w _ hx1)).trans hx1
      clear hb HB1 HK hL hT HL1 HT1 HS
      have hz0 : w3.cell? ⟨w.heap.size + 1 + 1, 0, none⟩ = some (.int .i64 0) := (blk_cell HK3.out 0).trans rfl
      have hz1 : w3.cell? ⟨w.heap.size + 1 + 1, 1, none⟩ = some (.int .i64 0) := (blk_cell HK3.out 1).trans rfl
      have hf0 := blk_frozen HK3.out 0
      have hf1 := blk_frozen HK3.out 1
      by_cases h1 : (rdM l0 ((n : Int) - 1)).f0 < tl
      · have h1b : decide ((rdM l0 ((n : Int) - 1)).f0 < tl) = true := decide_eq_true h1
        have HW := HV.out
        rw [if_pos h1] at HW
        injection HW with e1 e2
        injection e2 with e2 e3
        subst e1 e2 e3
        clear HV h1
        go_quiet (fail)
        go_wp2
        refine bodyPost_ret (results_ct rfl _ _ (w.heap.size + 1 + 1) 29 #[.int .i64 0, .int .i64 0] (0, 0) _ rfl (by (with_reducible repeat (first | refine blk_drewN ?_ _ | refine blk_drew ?_ | refine blk_alloc ?_ _)); refine blk_put (cs := #[.int .i64 0, .int .i64 0]) ?_ 1 _ rfl; (with_reducible repeat (first | refine blk_drewN ?_ _ | refine blk_drew ?_ | refine blk_alloc ?_ _)); refine blk_put (cs := #[.int .i64 0, .int .i64 0]) ?_ 0 _ rfl; (with_reducible repeat (first | refine blk_drewN ?_ _ | refine blk_drew ?_ | refine blk_alloc ?_ _)); exact HK3.out) Try.underlying29 rfl (by kernel_rfl)) rfl ?_
        exact ⟨rfl, by repeat (first | exact HB3.out | apply below_alloc | apply pw_below_drewN | apply below_drew1 | apply below_drew | refine below_set ?_ HG.out)⟩
      · have h1b : decide ((rdM l0 ((n : Int) - 1)).f0 < tl) = false := decide_eq_false h1
        by_cases h2 : (rdM l0 ((n : Int) - 1)).f1 = -9223372036854775808
        · have h2b : ((rdM l0 ((n : Int) - 1)).f1 == -9223372036854775808) = true := beq_iff_eq.2 h2
          have HW := HV.out
          rw [if_neg h1, if_pos h2] at HW
          injection HW with e1 e2
          injection e2 with e2 e3
          subst e1 e2 e3
          clear HV h1 h2
          go_quiet (fail)
          go_wp2
          refine bodyPost_ret (results_ct rfl _ _ (w.heap.size + 1 + 1) 29 #[.int .i64 0, .int .i64 0] (0, 0) _ rfl (by (with_reducible repeat (first | refine blk_drewN ?_ _ | refine blk_drew ?_ | refine blk_alloc ?_ _)); refine blk_put (cs := #[.int .i64 0, .int .i64 0]) ?_ 1 _ rfl; (with_reducible repeat (first | refine blk_drewN ?_ _ | refine blk_drew ?_ | refine blk_alloc ?_ _)); refine blk_put (cs := #[.int .i64 0, .int .i64 0]) ?_ 0 _ rfl; (with_reducible repeat (first | refine blk_drewN ?_ _ | refine blk_drew ?_ | refine blk_alloc ?_ _)); exact HK3.out) Try.underlying29 rfl (by kernel_rfl)) rfl ?_
          exact ⟨rfl, by repeat (first | exact HB3.out | apply below_alloc | apply pw_below_drewN | apply below_drew1 | apply below_drew | refine below_set ?_ HG.out)⟩
        · have h2b : ((rdM l0 ((n : Int) - 1)).f1 == -9223372036854775808) = false := beq_eq_false_iff_ne.2 h2
          have HW := HV.out
          rw [if_neg h1, if_neg h2] at HW
          injection HW with e1 e2
          injection e2 with e2 e3
          subst e1 e2 e3
          clear HV h1 h2
          go_quiet (fail)
          go_wp2
          refine bodyPost_ret (results_ct rfl _ _ (w.heap.size + 1 + 1) 29 #[.int .i64 (rdM l0 ((n : Int) - 1)).f0, .int .i64 (rdM l0 ((n : Int) - 1)).f1] (0, 0) _ rfl (by (with_reducible repeat (first | refine blk_drewN ?_ _ | refine blk_drew ?_ | refine blk_alloc ?_ _)); refine blk_put (cs := #[.int .i64 (rdM l0 ((n : Int) - 1)).f0, .int .i64 0]) ?_ 1 _ rfl; (with_reducible repeat (first | refine blk_drewN ?_ _ | refine blk_drew ?_ | refine blk_alloc ?_ _)); refine blk_put (cs := #[.int .i64 0, .int .i64 0]) ?_ 0 _ rfl; (with_reducible repeat (first | refine blk_drewN ?_ _ | refine blk_drew ?_ | refine blk_alloc ?_ _)); exact HK3.out) Try.underlying29 rfl (by kernel_rfl)) rfl ?_
          exact ⟨rfl, by repeat (first | exact HB3.out | apply below_alloc | apply pw_below_drewN | apply below_drew1 | apply below_drew | refine below_set ?_ HG.out)⟩
  · rw [if_neg hs] at h
    exact absurd h (by simp)
end Go.Proofs.Ytedfbdholjjflaa.PFnStrange
