/- The program's GoodTrace: what it computes, as the printed functions want their callees. -/
import Derived.Test.YthcamcmjafhehaaDoorHTraceMap
import Derived.StillTailTactics
namespace Go.Proofs.YthcamcmjafhehaaDoor.PFnExactKeepTraces
open Go.RowKit Go.Maps Go.Proofs.YthcamcmjafhehaaDoorW.PrintWords Go.Proofs.YthcamcmjafhehaaDoorW.PrintLast Go.Proofs.YthcamcmjafhehaaDoorW.PrintMore Go.Proofs.YthcamcmjafhehaaDoor.Evs Go.Proofs.YthcamcmjafhehaaDoor.AFnExactKeepTraces
set_option linter.unusedVariables false
set_option linter.unusedSimpArgs false

theorem lit_eq {a b : Int} (h : (DataW.lit (.int .i64 a) : DataW Unit) = .lit (.int .i64 b)) : a = b := by
  injection h with h
  injection h
theorem law3 : Keyed Tryd.prog 3 := int_keyed Tryd.underlying3
theorem zero3 (w : World) : (zeroValue 3).run Tryd.prog w = .ok (.int .i64 0) w := by kernel_rfl

set_option maxHeartbeats 8000000 in
set_option maxRecDepth 100000 in
theorem impl_GoodTrace.calls (a0_0 : Int) (A0_1 : Option Addr) (c0_1 : Nat) (l0_1 : List SC) (r : Bool) (w : World) (hr0_1 : Kd.C k60 w A0_1 l0_1.length l0_1) (hc0_1 : l0_1.length ≤ c0_1) (h : impl_GoodTrace.f a0_0 l0_1 = some r) :
    Calls Tryd.prog 27 #[.agg #[.int .i64 a0_0, .slice A0_1 l0_1.length c0_1]] w fun e w' => e = .returned (.bool r) ∧ Below w.heap.size w w' := by
  unfold impl_GoodTrace.f at h
  split at h
  case isFalse => exact absurd h (by simp)
  case isTrue hall =>
  have HALL := Aside0.mk hall
  have HR := Aside0.mk (Option.some.inj h)
  clear h hall
  by_cases hid : a0_0 < 1
  · have e : r = false := by rw [← HR.out]; unfold goodTraceB; rw [decide_eq_false (by omega : ¬ 1 ≤ a0_0)]; rfl
    subst e
    have hidb : decide (a0_0 ≤ 0) = true := decide_eq_true (by omega)
    clear hid
    go_enter Tryd.func27, Tryd.ntmps27
    go_wp2
    go_ret
    exact ⟨rfl, (Below.refl _ _).alloc (Nat.le_refl _) _⟩
  by_cases hl1 : l0_1.length < 1
  · have e : r = false := by rw [← HR.out]; unfold goodTraceB; rw [decide_eq_false (by omega : ¬ 1 ≤ l0_1.length)]; simp
    subst e
    have hidb : decide (a0_0 ≤ 0) = false := decide_eq_false (by omega)
    have hlb : decide (l0_1.length < 1) = true := decide_eq_true hl1
    have hlb2 : decide ((l0_1.length : Int) < 1) = true := decide_eq_true (by omega)
    clear hid hl1
    go_enter Tryd.func27, Tryd.ntmps27
    go_wp2
    go_ret
    exact ⟨rfl, (Below.refl _ _).alloc (Nat.le_refl _) _⟩
  by_cases hl2 : 100 < l0_1.length
  · have e : r = false := by rw [← HR.out]; unfold goodTraceB; rw [decide_eq_false (by omega : ¬ l0_1.length ≤ 100)]; simp
    subst e
    have hidb : decide (a0_0 ≤ 0) = false := decide_eq_false (by omega)
    have hlb : decide (l0_1.length < 1) = false := decide_eq_false hl1
    have hlb2 : decide ((l0_1.length : Int) < 1) = false := decide_eq_false (by omega)
    have hlc : decide (100 < l0_1.length) = true := decide_eq_true hl2
    have hlc2 : decide (100 < (l0_1.length : Int)) = true := decide_eq_true (by omega)
    clear hid hl1 hl2
    go_enter Tryd.func27, Tryd.ntmps27
    go_wp2
    go_ret
    exact ⟨rfl, (Below.refl _ _).alloc (Nat.le_refl _) _⟩
  have e : r = (List.range' 0 l0_1.length).all (okB l0_1) := by rw [← HR.out]; unfold goodTraceB; rw [decide_eq_true (by omega : 1 ≤ a0_0), decide_eq_true (by omega : 1 ≤ l0_1.length), decide_eq_true (by omega : l0_1.length ≤ 100)]; rfl
  have HE := Aside0.mk e
  clear HR e
  have HC := Aside0.mk hr0_1
  have HCC := Aside0.mk hc0_1
  have hmax : l0_1.length ≤ 100 := by omega
  have hidb : decide (a0_0 ≤ 0) = false := decide_eq_false (by omega)
  have hlb : decide (l0_1.length < 1) = false := decide_eq_false hl1
  have hlb2 : decide ((l0_1.length : Int) < 1) = false := decide_eq_false (by omega)
  have hlc : decide (100 < l0_1.length) = false := decide_eq_false hl2
  have hlc2 : decide (100 < (l0_1.length : Int)) = false := decide_eq_false (by omega)
  clear hid hl1 hl2 hr0_1 hc0_1
  have hmm := @run_makeMap Tryd.prog
  go_enter Tryd.func27, Tryd.ntmps27
  go_wp2
  clear hidb hlb hlb2 hlc hlc2
  go_loopg [27] l0_1.length (fun gg s27 wr => ∃ i : Nat, i ≤ l0_1.length ∧ l0_1.length - i ≤ gg ∧ s27 = .int .i64 i ∧ ∃ D : DataW Unit, Aside0 (wr.ownsMap Tryd.prog 3 (plainElem Tryd.prog 3) (w.heap.size + 1) i D) ∧ Aside0 (MapOk D l0_1 i) ∧ Aside0 (Below w.heap.size w wr) ∧ Aside0 (wr.heap[w.heap.size]? = some (.cells #[.int .i64 a0_0, .slice A0_1 l0_1.length c0_1] 51 (0, 0))) ∧ Aside0 (r = (List.range' i (l0_1.length - i)).all (okB l0_1)))
  case atStart => exact ⟨0, Nat.zero_le _, by omega, rfl, .map [], ⟨own_made w _ _ _ _⟩, ⟨mapOk_start _⟩, ⟨((Below.refl _ _).alloc (Nat.le_refl _) _).alloc (Nat.le_of_lt (blk_lt (blk_new w _))) _⟩, ⟨(Below.heap_alloc _ _ _ (blk_lt (blk_new w _))).trans (blk_new w _)⟩, HE⟩
  case round =>
    clear HE
    obtain ⟨i, hi, hg, rfl, D, HO, HM, HB, HT, HI⟩ := hrel
    by_cases hlt : i < l0_1.length
    · have e : r = (okB l0_1 i && (List.range' (i + 1) (l0_1.length - (i + 1))).all (okB l0_1)) := by
        rw [HI.out, show l0_1.length - i = l0_1.length - (i + 1) + 1 by omega, range'_all]
      have HI2 := Aside0.mk e
      clear e HI
      have hltz : (i : Int) < (l0_1.length : Int) := by omega
      obtain ⟨ad, rfl, hx0, hx1, hx2, hx3, hx4, hx5, hx6⟩ := at_T60 HC.out (i : Int) (by omega) (by omega)
      have HAD := Aside0.mk (HC.out)
      rw [Int.toNat_natCast] at hx0 hx1 hx2 hx3 hx4 hx5 hx6
      replace hx0 := (HB.out.cell (World.block_lt_of_cell? w _ hx0)).trans hx0
      replace hx1 := (HB.out.cell (World.block_lt_of_cell? w _ hx1)).trans hx1
      replace hx2 := (HB.out.cell (World.block_lt_of_cell? w _ hx2)).trans hx2
      replace hx3 := (HB.out.cell (World.block_lt_of_cell? w _ hx3)).trans hx3
      replace hx4 := (HB.out.cell (World.block_lt_of_cell? w _ hx4)).trans hx4
      replace hx5 := (HB.out.cell (World.block_lt_of_cell? w _ hx5)).trans hx5
      replace hx6 := (HB.out.cell (World.block_lt_of_cell? w _ hx6)).trans hx6
      go_upto_region 7 with (fail)
      have HS := Aside0.mk (show w.heap.size < wr.heap.size from blk_lt HT.out)
      have HX := Aside0.mk (blk_new wr (.cells #[.int .i64 (rd_T60 l0_1 (i : Int)).f0, .int .i64 (rd_T60 l0_1 (i : Int)).f1, .string (rd_T60 l0_1 (i : Int)).f2, .string (rd_T60 l0_1 (i : Int)).f3, .int .i64 (rd_T60 l0_1 (i : Int)).f4, .int .i64 (rd_T60 l0_1 (i : Int)).f5, .bool (rd_T60 l0_1 (i : Int)).f6] 60))
      have HT1 := Aside0.mk ((Below.heap_alloc wr (.cells #[.int .i64 (rd_T60 l0_1 (i : Int)).f0, .int .i64 (rd_T60 l0_1 (i : Int)).f1, .string (rd_T60 l0_1 (i : Int)).f2, .string (rd_T60 l0_1 (i : Int)).f3, .int .i64 (rd_T60 l0_1 (i : Int)).f4, .int .i64 (rd_T60 l0_1 (i : Int)).f5, .bool (rd_T60 l0_1 (i : Int)).f6] 60) w.heap.size HS.out).trans HT.out)
      have HB1 := Aside0.mk (below_alloc HB.out (.cells #[.int .i64 (rd_T60 l0_1 (i : Int)).f0, .int .i64 (rd_T60 l0_1 (i : Int)).f1, .string (rd_T60 l0_1 (i : Int)).f2, .string (rd_T60 l0_1 (i : Int)).f3, .int .i64 (rd_T60 l0_1 (i : Int)).f4, .int .i64 (rd_T60 l0_1 (i : Int)).f5, .bool (rd_T60 l0_1 (i : Int)).f6] 60))
      have HO1 := Aside0.mk (own_at HO.out (Below.heap_alloc wr (.cells #[.int .i64 (rd_T60 l0_1 (i : Int)).f0, .int .i64 (rd_T60 l0_1 (i : Int)).f1, .string (rd_T60 l0_1 (i : Int)).f2, .string (rd_T60 l0_1 (i : Int)).f3, .int .i64 (rd_T60 l0_1 (i : Int)).f4, .int .i64 (rd_T60 l0_1 (i : Int)).f5, .bool (rd_T60 l0_1 (i : Int)).f6] 60) _ (own_lt_map HO.out)))
      clear hx0 hx1 hx2 hx3 hx4 hx5 hx6
      generalize wr.alloc (.cells #[.int .i64 (rd_T60 l0_1 (i : Int)).f0, .int .i64 (rd_T60 l0_1 (i : Int)).f1, .string (rd_T60 l0_1 (i : Int)).f2, .string (rd_T60 l0_1 (i : Int)).f3, .int .i64 (rd_T60 l0_1 (i : Int)).f4, .int .i64 (rd_T60 l0_1 (i : Int)).f5, .bool (rd_T60 l0_1 (i : Int)).f6] 60) = W1 at HX HT1 HB1 HO1 ⊢
      generalize wr.heap.size = gX at HS HX ⊢
      clear HB HT HO
      have hX0 : W1.cell? ⟨gX, 0, none⟩ = some (.int .i64 (rd_T60 l0_1 (i : Int)).f0) := (blk_cell HX.out 0).trans rfl
      have hX1 : W1.cell? ⟨gX, 1, none⟩ = some (.int .i64 (rd_T60 l0_1 (i : Int)).f1) := (blk_cell HX.out 1).trans rfl
      have hX2 : W1.cell? ⟨gX, 2, none⟩ = some (.string (rd_T60 l0_1 (i : Int)).f2) := (blk_cell HX.out 2).trans rfl
      have hX3 : W1.cell? ⟨gX, 3, none⟩ = some (.string (rd_T60 l0_1 (i : Int)).f3) := (blk_cell HX.out 3).trans rfl
      have hX4 : W1.cell? ⟨gX, 4, none⟩ = some (.int .i64 (rd_T60 l0_1 (i : Int)).f4) := (blk_cell HX.out 4).trans rfl
      have hX5 : W1.cell? ⟨gX, 5, none⟩ = some (.int .i64 (rd_T60 l0_1 (i : Int)).f5) := (blk_cell HX.out 5).trans rfl
      have hT1 : W1.cell? ⟨w.heap.size, 1, none⟩ = some (.slice (some ad) l0_1.length c0_1) := (blk_cell HT1.out 1).trans rfl
      go_cut [81] (fun v81 wc => ∃ m, wc = W1.drewN m ∧ v81 = .bool (badB l0_1 i))
      case first =>
        have hbad : badB l0_1 i = badB l0_1 i := rfl
        conv at hbad => rhs; unfold badB
        have HBAD := Aside0.mk hbad
        clear hbad
        have hprev : 0 < i → W1.cell? (ad.add ((i - 1) * 7)) = some (.int .i64 (rd_T60 l0_1 ((i : Int) - 1)).f0) := fun hz => by
          obtain ⟨ad', e, hy, _⟩ := at_T60 HC.out ((i : Int) - 1) (by omega) (by omega)
          injection e with e
          subst e
          rw [show ((i : Int) - 1).toNat = i - 1 by omega] at hy
          exact (HB1.out.cell (World.block_lt_of_cell? w _ hy)).trans hy
        clear hX1 hlt hi hg HO1 HM HALL
        obtain ⟨bad, hb0⟩ : ∃ bad, bad = badB l0_1 i := ⟨_, rfl⟩
        have HB0 := Aside0.mk hb0
        replace HBAD := Aside0.mk (hb0.trans HBAD.out)
        clear hb0
        generalize (rd_T60 l0_1 (i : Int)) = x at *
        by_cases c1 : x.f0 ≤ 0
        · have c1b := decide_eq_true c1
          have c1c : decide (x.f0 < 1) = true := decide_eq_true (by omega)
          clear c1
          have HV := Aside0.mk (show bad = true by rw [HBAD.out]; simp [c1c])
          clear HBAD
          go_quiet (fail)
          go_wp2
          go_meet
          case rel => exact ⟨_, rfl, by rw [← HB0.out, HV.out]⟩
        · have c1b := decide_eq_false c1
          have c1c : decide (x.f0 < 1) = false := decide_eq_false (by omega)
          clear c1
          rcases Nat.eq_zero_or_pos i with hz | hz
          · have c2b : decide (0 < (i : Int)) = false := decide_eq_false (by omega)
            have c2c : decide (0 < i) = false := decide_eq_false (by omega)
            clear hz hprev
            cases hq0 : nameB x.f2 with
            | false =>
              have HQ0 := Aside0.mk (fun W => implName_of x.f2 hq0 W)
              have HV := Aside0.mk (show bad = true by rw [HBAD.out]; simp [c1c, c2c, hq0])
              clear HBAD
              go_quiet (first | (go_at_call_of 47 (x.f2); exact Calls.quiet_of (HQ0.out _)))
              go_wp2
              go_meet
              case rel => exact ⟨_, rfl, by rw [← HB0.out, HV.out]⟩
            | true =>
              have HQ0 := Aside0.mk (fun W => implName_of x.f2 hq0 W)
              cases hq1 : nameB x.f3 with
              | false =>
                have HQ1 := Aside0.mk (fun W => implName_of x.f3 hq1 W)
                have HV := Aside0.mk (show bad = true by rw [HBAD.out]; simp [c1c, c2c, hq0, hq1])
                clear HBAD
                go_quiet (first | (go_at_call_of 47 (x.f2); exact Calls.quiet_of (HQ0.out _)) | (go_at_call_of 47 (x.f3); exact Calls.quiet_of (HQ1.out _)))
                go_wp2
                go_meet
                case rel => exact ⟨_, rfl, by rw [← HB0.out, HV.out]⟩
              | true =>
                have HQ1 := Aside0.mk (fun W => implName_of x.f3 hq1 W)
                cases hq2 : timeB x.f4 with
                | false =>
                  have HQ2 := Aside0.mk (fun W => implTime_of x.f4 hq2 W)
                  have HV := Aside0.mk (show bad = true by rw [HBAD.out]; simp [c1c, c2c, hq0, hq1, hq2])
                  clear HBAD
                  go_quiet (first | (go_at_call_of 47 (x.f2); exact Calls.quiet_of (HQ0.out _)) | (go_at_call_of 47 (x.f3); exact Calls.quiet_of (HQ1.out _)) | (go_at_call_of 46 (x.f4); exact Calls.quiet_of (HQ2.out _)))
                  go_wp2
                  go_meet
                  case rel => exact ⟨_, rfl, by rw [← HB0.out, HV.out]⟩
                | true =>
                  have HQ2 := Aside0.mk (fun W => implTime_of x.f4 hq2 W)
                  cases hq3 : timeB x.f5 with
                  | false =>
                    have HQ3 := Aside0.mk (fun W => implTime_of x.f5 hq3 W)
                    have HV := Aside0.mk (show bad = true by rw [HBAD.out]; simp [c1c, c2c, hq0, hq1, hq2, hq3])
                    clear HBAD
                    go_quiet (first | (go_at_call_of 47 (x.f2); exact Calls.quiet_of (HQ0.out _)) | (go_at_call_of 47 (x.f3); exact Calls.quiet_of (HQ1.out _)) | (go_at_call_of 46 (x.f4); exact Calls.quiet_of (HQ2.out _)) | (go_at_call_of 46 (x.f5); exact Calls.quiet_of (HQ3.out _)))
                    go_wp2
                    go_meet
                    case rel => exact ⟨_, rfl, by rw [← HB0.out, HV.out]⟩
                  | true =>
                    have HQ3 := Aside0.mk (fun W => implTime_of x.f5 hq3 W)
                    have HV := Aside0.mk (show bad = decide (x.f5 < x.f4) by rw [HBAD.out]; simp [c1c, c2c, hq0, hq1, hq2, hq3])
                    clear HBAD
                    go_quiet (first | (go_at_call_of 47 (x.f2); exact Calls.quiet_of (HQ0.out _)) | (go_at_call_of 47 (x.f3); exact Calls.quiet_of (HQ1.out _)) | (go_at_call_of 46 (x.f4); exact Calls.quiet_of (HQ2.out _)) | (go_at_call_of 46 (x.f5); exact Calls.quiet_of (HQ3.out _)))
                    go_wp2
                    go_meet
                    case rel => exact ⟨_, rfl, by rw [← HB0.out, HV.out]⟩
          · have c2b : decide (0 < (i : Int)) = true := decide_eq_true (by omega)
            have c2c : decide (0 < i) = true := decide_eq_true (by omega)
            have hpr := hprev hz
            obtain ⟨hw1, hw2, hw3, _⟩ := prev_facts hz hltz hmax
            clear hz hprev
            generalize (rd_T60 l0_1 ((i : Int) - 1)) = y at *
            by_cases c3 : x.f0 ≤ y.f0
            · have c3b := decide_eq_true c3
              clear c3
              have HV := Aside0.mk (show bad = true by rw [HBAD.out]; simp [c1c, c2c, c3b])
              clear HBAD
              go_quiet (fail)
              go_wp2
              go_meet
              case rel => exact ⟨_, rfl, by rw [← HB0.out, HV.out]⟩
            · have c3b := decide_eq_false c3
              clear c3
              cases hq0 : nameB x.f2 with
              | false =>
                have HQ0 := Aside0.mk (fun W => implName_of x.f2 hq0 W)
                have HV := Aside0.mk (show bad = true by rw [HBAD.out]; simp [c1c, c2c, c3b, hq0])
                clear HBAD
                go_quiet (first | (go_at_call_of 47 (x.f2); exact Calls.quiet_of (HQ0.out _)))
                go_wp2
                go_meet
                case rel => exact ⟨_, rfl, by rw [← HB0.out, HV.out]⟩
              | true =>
                have HQ0 := Aside0.mk (fun W => implName_of x.f2 hq0 W)
                cases hq1 : nameB x.f3 with
                | false =>
                  have HQ1 := Aside0.mk (fun W => implName_of x.f3 hq1 W)
                  have HV := Aside0.mk (show bad = true by rw [HBAD.out]; simp [c1c, c2c, c3b, hq0, hq1])
                  clear HBAD
                  go_quiet (first | (go_at_call_of 47 (x.f2); exact Calls.quiet_of (HQ0.out _)) | (go_at_call_of 47 (x.f3); exact Calls.quiet_of (HQ1.out _)))
                  go_wp2
                  go_meet
                  case rel => exact ⟨_, rfl, by rw [← HB0.out, HV.out]⟩
                | true =>
                  have HQ1 := Aside0.mk (fun W => implName_of x.f3 hq1 W)
                  cases hq2 : timeB x.f4 with
                  | false =>
                    have HQ2 := Aside0.mk (fun W => implTime_of x.f4 hq2 W)
                    have HV := Aside0.mk (show bad = true by rw [HBAD.out]; simp [c1c, c2c, c3b, hq0, hq1, hq2])
                    clear HBAD
                    go_quiet (first | (go_at_call_of 47 (x.f2); exact Calls.quiet_of (HQ0.out _)) | (go_at_call_of 47 (x.f3); exact Calls.quiet_of (HQ1.out _)) | (go_at_call_of 46 (x.f4); exact Calls.quiet_of (HQ2.out _)))
                    go_wp2
                    go_meet
                    case rel => exact ⟨_, rfl, by rw [← HB0.out, HV.out]⟩
                  | true =>
                    have HQ2 := Aside0.mk (fun W => implTime_of x.f4 hq2 W)
                    cases hq3 : timeB x.f5 with
                    | false =>
                      have HQ3 := Aside0.mk (fun W => implTime_of x.f5 hq3 W)
                      have HV := Aside0.mk (show bad = true by rw [HBAD.out]; simp [c1c, c2c, c3b, hq0, hq1, hq2, hq3])
                      clear HBAD
                      go_quiet (first | (go_at_call_of 47 (x.f2); exact Calls.quiet_of (HQ0.out _)) | (go_at_call_of 47 (x.f3); exact Calls.quiet_of (HQ1.out _)) | (go_at_call_of 46 (x.f4); exact Calls.quiet_of (HQ2.out _)) | (go_at_call_of 46 (x.f5); exact Calls.quiet_of (HQ3.out _)))
                      go_wp2
                      go_meet
                      case rel => exact ⟨_, rfl, by rw [← HB0.out, HV.out]⟩
                    | true =>
                      have HQ3 := Aside0.mk (fun W => implTime_of x.f5 hq3 W)
                      have HV := Aside0.mk (show bad = decide (x.f5 < x.f4) by rw [HBAD.out]; simp [c1c, c2c, c3b, hq0, hq1, hq2, hq3])
                      clear HBAD
                      go_quiet (first | (go_at_call_of 47 (x.f2); exact Calls.quiet_of (HQ0.out _)) | (go_at_call_of 47 (x.f3); exact Calls.quiet_of (HQ1.out _)) | (go_at_call_of 46 (x.f4); exact Calls.quiet_of (HQ2.out _)) | (go_at_call_of 46 (x.f5); exact Calls.quiet_of (HQ3.out _)))
                      go_wp2
                      go_meet
                      case rel => exact ⟨_, rfl, by rw [← HB0.out, HV.out]⟩
      case rest =>
        obtain ⟨m, hm, rfl⟩ := hcut
        replace HX : Aside0 (wc.heap[gX]? = some (.cells #[.int .i64 (rd_T60 l0_1 (i : Int)).f0, .int .i64 (rd_T60 l0_1 (i : Int)).f1, .string (rd_T60 l0_1 (i : Int)).f2, .string (rd_T60 l0_1 (i : Int)).f3, .int .i64 (rd_T60 l0_1 (i : Int)).f4, .int .i64 (rd_T60 l0_1 (i : Int)).f5, .bool (rd_T60 l0_1 (i : Int)).f6] 60 (0, 0))) := ⟨by rw [hm]; exact HX.out⟩
        replace HT1 : Aside0 (wc.heap[w.heap.size]? = some (.cells #[.int .i64 a0_0, .slice (some ad) l0_1.length c0_1] 51 (0, 0))) := ⟨by rw [hm]; exact HT1.out⟩
        replace HB1 : Aside0 (Below w.heap.size w wc) := ⟨by rw [hm]; exact pw_below_drewN HB1.out m⟩
        replace HO1 := Aside0.mk (own_at HO1.out (show wc.heap[w.heap.size + 1]? = W1.heap[w.heap.size + 1]? by rw [hm]; rfl))
        clear hX0 hX1 hX2 hX3 hX4 hX5 hT1 hm
        have hX0 : wc.cell? ⟨gX, 0, none⟩ = some (.int .i64 (rd_T60 l0_1 (i : Int)).f0) := (blk_cell HX.out 0).trans rfl
        have hX1 : wc.cell? ⟨gX, 1, none⟩ = some (.int .i64 (rd_T60 l0_1 (i : Int)).f1) := (blk_cell HX.out 1).trans rfl
        have hX4 : wc.cell? ⟨gX, 4, none⟩ = some (.int .i64 (rd_T60 l0_1 (i : Int)).f4) := (blk_cell HX.out 4).trans rfl
        have hT1 : wc.cell? ⟨w.heap.size, 1, none⟩ = some (.slice (some ad) l0_1.length c0_1) := (blk_cell HT1.out 1).trans rfl
        cases hbad : badB l0_1 i with
        | true =>
          have HV := Aside0.mk (show r = false by rw [HI2.out, ok_bad hbad]; rfl)
          clear hbad
          go_wp2
          go_ret
          exact ⟨by rw [HV.out]; rfl, HB1.out⟩
        | false =>
          have HOK := Aside0.mk (ok_kid hbad)
          have HSTEP := Aside0.mk (mapOk_step HM.out hlt hbad)
          clear hbad
          have HWF := wf_call HALL.out i hlt
          have HK0 := Aside0.mk (keyOf_int_mk Tryd.underlying3 HWF.1)
          have HK1 := Aside0.mk (keyOf_int_mk Tryd.underlying3 HWF.2.1)
          have HK4 := Aside0.mk (plainElem_int (H := Unit) Tryd.underlying3 HWF.2.2)
          have HMX := Aside0.mk (show i < maxLen by unfold maxLen; omega)
          clear HWF
          rcases Nat.eq_zero_or_pos i with hz | hz
          · have hzb : ((i : Int) == 0) = true := beq_iff_eq.2 (by omega)
            by_cases hp : (rd_T60 l0_1 (i : Int)).f1 = 0
            · have HV := Aside0.mk (show r = (List.range' (i + 1) (l0_1.length - (i + 1))).all (okB l0_1) by
                rw [HI2.out, HOK.out]
                subst hz
                rw [kid_zero, decide_eq_true hp]
                rfl)
              have hpb : ((rd_T60 l0_1 (i : Int)).f1 != 0) = false := bne_eq_false_iff_eq.2 hp
              clear hz hp
              have HB2 := HB1
              have HSZ := Aside0.mk (own_lt_map HO1.out)
              go_wp2_with (first | (at_mapUpdate; refine wpList_mapUpdate_own _ rfl _ _ _ 75 rfl 3 3 law3 Tryd.underlying75 _ (w.heap.size + 1) i _ rfl HO1.out HMX.out _ _ _ rfl rfl HK0.out _ [] HK4.out ?_; intro w1 hown1 hgrow1) | go_in)
              go_roundg (l0_1.length - (i + 1))
              case measure => exact Nat.lt_of_lt_of_le (Nat.sub_lt_sub_left hlt (Nat.lt_succ_self i)) hg
              case rel => exact ⟨i + 1, hlt, Nat.le_refl _, by go_num, _, ⟨hown1⟩, HSTEP, ⟨below_grown HB2.out hgrow1 HSZ.out⟩, ⟨(grown_far hgrow1 (blk_lt HT1.out) (Nat.ne_of_lt (Nat.lt_succ_self _))).trans HT1.out⟩, HV⟩
            · have HV := Aside0.mk (show r = false by
                rw [HI2.out, HOK.out]
                subst hz
                rw [kid_zero, decide_eq_false hp]
                rfl)
              have hpb : ((rd_T60 l0_1 (i : Int)).f1 != 0) = true := bne_iff_ne.2 hp
              clear hz hp
              go_wp2
              go_ret
              exact ⟨by rw [HV.out]; rfl, HB1.out⟩
          · have hzb : ((i : Int) == 0) = false := beq_eq_false_iff_ne.2 (by omega)
            have hhas := HM.out.has (rd_T60 l0_1 (i : Int)).f1
            have hval := HM.out.val (rd_T60 l0_1 (i : Int)).f1
            cases hpar : parFrom (l0_1.take i) (rd_T60 l0_1 (i : Int)).f1 with
            | none =>
              have HV := Aside0.mk (show r = false by rw [HI2.out, HOK.out, kid_none hz hpar]; rfl)
              have HHAS := Aside0.mk (hhas.trans (congrArg Option.isSome hpar))
              clear hz hpar hhas hval
              go_wp2_with (first | (at_lookup; refine wpList_lookup_own_ok_int _ rfl _ _ 75 rfl 3 3 .i64 law3 Tryd.underlying75 Tryd.underlying3 (zero3 _) (w.heap.size + 1) i D rfl HO1.out _ _ rfl HK1.out ?_; intro c hat hwc; rw [HHAS.out]; clear hwc) | go_in)
              go_ret
              exact ⟨by rw [HV.out]; rfl, HB1.out⟩
            | some f =>
              have HHAS := Aside0.mk (hhas.trans (congrArg Option.isSome hpar))
              have HAT := Aside0.mk (fun (c : Int) (h : D.atKey (.int .i64 (rd_T60 l0_1 (i : Int)).f1) (.lit (.int .i64 0)) = .lit (.int .i64 c)) => (hval f hpar _).symm.trans h)
              have HB2 := HB1
              have HSZ := Aside0.mk (own_lt_map HO1.out)
              by_cases hf : (rd_T60 l0_1 (i : Int)).f4 < f
              · have HV := Aside0.mk (show r = false by rw [HI2.out, HOK.out, kid_some hz hpar, decide_eq_false (by omega)]; rfl)
                have hfb := decide_eq_true hf
                clear hz hpar hhas hval hf
                go_wp2_with (first | (at_lookup; refine wpList_lookup_own_ok_int _ rfl _ _ 75 rfl 3 3 .i64 law3 Tryd.underlying75 Tryd.underlying3 (zero3 _) (w.heap.size + 1) i D rfl HO1.out _ _ rfl HK1.out ?_; intro c hat hwc; rw [HHAS.out]; obtain rfl := lit_eq (HAT.out c hat); clear hwc hat HAT) | go_in)
                go_ret
                exact ⟨by rw [HV.out]; rfl, HB1.out⟩
              · have HV := Aside0.mk (show r = (List.range' (i + 1) (l0_1.length - (i + 1))).all (okB l0_1) by rw [HI2.out, HOK.out, kid_some hz hpar, decide_eq_true (by omega)]; rfl)
                have hfb := decide_eq_false hf
                clear hz hpar hhas hval hf
                go_wp2_with (first | (at_lookup; refine wpList_lookup_own_ok_int _ rfl _ _ 75 rfl 3 3 .i64 law3 Tryd.underlying75 Tryd.underlying3 (zero3 _) (w.heap.size + 1) i D rfl HO1.out _ _ rfl HK1.out ?_; intro c hat hwc; rw [HHAS.out]; obtain rfl := lit_eq (HAT.out c hat); clear hwc hat HAT) | (at_mapUpdate; refine wpList_mapUpdate_own _ rfl _ _ _ 75 rfl 3 3 law3 Tryd.underlying75 _ (w.heap.size + 1) i _ rfl HO1.out HMX.out _ _ _ rfl rfl HK0.out _ [] HK4.out ?_; intro w1 hown1 hgrow1) | go_in)
                go_roundg (l0_1.length - (i + 1))
                case measure => exact Nat.lt_of_lt_of_le (Nat.sub_lt_sub_left hlt (Nat.lt_succ_self i)) hg
                case rel => exact ⟨i + 1, hlt, Nat.le_refl _, by go_num, _, ⟨hown1⟩, HSTEP, ⟨below_grown HB2.out hgrow1 HSZ.out⟩, ⟨(grown_far hgrow1 (blk_lt HT1.out) (Nat.ne_of_lt (Nat.lt_succ_self _))).trans HT1.out⟩, HV⟩
    · obtain rfl : i = l0_1.length := by omega
      have HV := Aside0.mk (show r = true by rw [HI.out, Nat.sub_self]; rfl)
      clear HI
      go_wp2
      go_ret
      exact ⟨by rw [HV.out]; rfl, HB.out⟩
end Go.Proofs.YthcamcmjafhehaaDoor.PFnExactKeepTraces
