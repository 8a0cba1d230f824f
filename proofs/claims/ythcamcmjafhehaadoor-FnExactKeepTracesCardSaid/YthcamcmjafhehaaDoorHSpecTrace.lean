/- The reference's GoodTrace: what it computes, as the printed functions want their callees. -/
import Derived.Test.YthcamcmjafhehaaDoorHTraceDefs
import Derived.StillTailTactics
namespace Go.Proofs.YthcamcmjafhehaaDoor.PFnExactKeepTraces
open Go.RowKit Go.Proofs.YthcamcmjafhehaaDoorW.PrintWords Go.Proofs.YthcamcmjafhehaaDoorW.PrintLast Go.Proofs.YthcamcmjafhehaaDoorW.PrintMore Go.Proofs.YthcamcmjafhehaaDoor.Evs Go.Proofs.YthcamcmjafhehaaDoor.AFnExactKeepTraces
set_option linter.unusedVariables false
set_option linter.unusedSimpArgs false

set_option maxHeartbeats 8000000 in
set_option maxRecDepth 100000 in
theorem spec_GoodTrace.calls (a0_0 : Int) (A0_1 : Option Addr) (c0_1 : Nat) (l0_1 : List SC) (r : Bool) (w : World) (hr0_1 : Kd.C k60 w A0_1 l0_1.length l0_1) (hc0_1 : l0_1.length ≤ c0_1) (h : spec_GoodTrace.f a0_0 l0_1 = some r) :
    Calls Tryd.prog 40 #[.agg #[.int .i64 a0_0, .slice A0_1 l0_1.length c0_1]] w fun e w' => e = .returned (.bool r) ∧ Below w.heap.size w w' := by
  have HR := Aside0.mk (Option.some.inj h)
  clear h
  by_cases hid : a0_0 < 1
  · have e : r = false := by rw [← HR.out]; unfold goodTraceB; rw [decide_eq_false (by omega : ¬ 1 ≤ a0_0)]; rfl
    subst e
    have hidb : decide (a0_0 < 1) = true := decide_eq_true hid
    clear hid
    go_enter Tryd.func40, Tryd.ntmps40
    go_wp2
    go_ret
    exact ⟨rfl, (Below.refl _ _).alloc (Nat.le_refl _) _⟩
  by_cases hl1 : l0_1.length < 1
  · have e : r = false := by rw [← HR.out]; unfold goodTraceB; rw [decide_eq_false (by omega : ¬ 1 ≤ l0_1.length)]; simp
    subst e
    have hidb : decide (a0_0 < 1) = false := decide_eq_false hid
    have hlb : decide (l0_1.length < 1) = true := decide_eq_true hl1
    have hlb2 : decide ((l0_1.length : Int) < 1) = true := decide_eq_true (by omega)
    clear hid hl1
    go_enter Tryd.func40, Tryd.ntmps40
    go_wp2
    go_ret
    exact ⟨rfl, (Below.refl _ _).alloc (Nat.le_refl _) _⟩
  by_cases hl2 : 100 < l0_1.length
  · have e : r = false := by rw [← HR.out]; unfold goodTraceB; rw [decide_eq_false (by omega : ¬ l0_1.length ≤ 100)]; simp
    subst e
    have hidb : decide (a0_0 < 1) = false := decide_eq_false hid
    have hlb : decide (l0_1.length < 1) = false := decide_eq_false hl1
    have hlb2 : decide ((l0_1.length : Int) < 1) = false := decide_eq_false (by omega)
    have hlc : decide (100 < l0_1.length) = true := decide_eq_true hl2
    have hlc2 : decide (100 < (l0_1.length : Int)) = true := decide_eq_true (by omega)
    clear hid hl1 hl2
    go_enter Tryd.func40, Tryd.ntmps40
    go_wp2
    go_ret
    exact ⟨rfl, (Below.refl _ _).alloc (Nat.le_refl _) _⟩
  have e : r = (List.range' 0 l0_1.length).all (okB l0_1) := by rw [← HR.out]; unfold goodTraceB; rw [decide_eq_true (by omega : 1 ≤ a0_0), decide_eq_true (by omega : 1 ≤ l0_1.length), decide_eq_true (by omega : l0_1.length ≤ 100)]; rfl
  have HE := Aside0.mk e
  clear HR e
  have HC := Aside0.mk hr0_1
  have HCC := Aside0.mk hc0_1
  have hmax : l0_1.length ≤ 100 := by omega
  have hidb : decide (a0_0 < 1) = false := decide_eq_false hid
  have hlb : decide (l0_1.length < 1) = false := decide_eq_false hl1
  have hlb2 : decide ((l0_1.length : Int) < 1) = false := decide_eq_false (by omega)
  have hlc : decide (100 < l0_1.length) = false := decide_eq_false hl2
  have hlc2 : decide (100 < (l0_1.length : Int)) = false := decide_eq_false (by omega)
  clear hid hl1 hl2 hr0_1 hc0_1
  go_enter Tryd.func40, Tryd.ntmps40
  go_wp2
  clear hidb hlb hlb2 hlc hlc2
  go_loopg [24] l0_1.length (fun gg s24 wr => ∃ i : Nat, i ≤ l0_1.length ∧ l0_1.length - i ≤ gg ∧ s24 = .int .i64 i ∧ Aside0 (Below w.heap.size w wr) ∧ Aside0 (wr.heap[w.heap.size]? = some (.cells #[.int .i64 a0_0, .slice A0_1 l0_1.length c0_1] 51 (0, 0))) ∧ Aside0 (r = (List.range' i (l0_1.length - i)).all (okB l0_1)))
  case atStart => exact ⟨0, Nat.zero_le _, by omega, rfl, ⟨(Below.refl _ _).alloc (Nat.le_refl _) _⟩, ⟨blk_new w _⟩, HE⟩
  case round =>
    clear HE
    obtain ⟨i, hi, hg, rfl, HB, HT, HI⟩ := hrel
    by_cases hlt : i < l0_1.length
    · have e : r = (okB l0_1 i && (List.range' (i + 1) (l0_1.length - (i + 1))).all (okB l0_1)) := by
        rw [HI.out, show l0_1.length - i = l0_1.length - (i + 1) + 1 by omega, range'_all]
      have HI2 := Aside0.mk e
      clear e HI
      have hltz : (i : Int) < (l0_1.length : Int) := by omega
      obtain ⟨ad, rfl, hx0, hx1, hx2, hx3, hx4, hx5, hx6⟩ := at_T60 HC.out (i : Int) (by omega) (by omega)
      have HAD := Aside0.mk (HC.out)
      rw [Int.toNat_natCast] at hx0 hx1 hx2 hx3 hx4 hx5 hx6
      replace hx0 := (HB.out.cell (World.block_lt_of_cell? w _ hx0)).trans hx0
      replace hx1 := (HB.out.cell (World.block_lt_of_cell? w _ hx1)).trans hx1
      replace hx2 := (HB.out.cell (World.block_lt_of_cell? w _ hx2)).trans hx2
      replace hx3 := (HB.out.cell (World.block_lt_of_cell? w _ hx3)).trans hx3
      replace hx4 := (HB.out.cell (World.block_lt_of_cell? w _ hx4)).trans hx4
      replace hx5 := (HB.out.cell (World.block_lt_of_cell? w _ hx5)).trans hx5
      replace hx6 := (HB.out.cell (World.block_lt_of_cell? w _ hx6)).trans hx6
      go_upto_region 6 with (fail)
      have HS := Aside0.mk (show w.heap.size < wr.heap.size from blk_lt HT.out)
      have HX := Aside0.mk (blk_new wr (.cells #[.int .i64 (rd_T60 l0_1 (i : Int)).f0, .int .i64 (rd_T60 l0_1 (i : Int)).f1, .string (rd_T60 l0_1 (i : Int)).f2, .string (rd_T60 l0_1 (i : Int)).f3, .int .i64 (rd_T60 l0_1 (i : Int)).f4, .int .i64 (rd_T60 l0_1 (i : Int)).f5, .bool (rd_T60 l0_1 (i : Int)).f6] 60))
      have HT1 := Aside0.mk ((Below.heap_alloc wr (.cells #[.int .i64 (rd_T60 l0_1 (i : Int)).f0, .int .i64 (rd_T60 l0_1 (i : Int)).f1, .string (rd_T60 l0_1 (i : Int)).f2, .string (rd_T60 l0_1 (i : Int)).f3, .int .i64 (rd_T60 l0_1 (i : Int)).f4, .int .i64 (rd_T60 l0_1 (i : Int)).f5, .bool (rd_T60 l0_1 (i : Int)).f6] 60) w.heap.size HS.out).trans HT.out)
      have HB1 := Aside0.mk (below_alloc HB.out (.cells #[.int .i64 (rd_T60 l0_1 (i : Int)).f0, .int .i64 (rd_T60 l0_1 (i : Int)).f1, .string (rd_T60 l0_1 (i : Int)).f2, .string (rd_T60 l0_1 (i : Int)).f3, .int .i64 (rd_T60 l0_1 (i : Int)).f4, .int .i64 (rd_T60 l0_1 (i : Int)).f5, .bool (rd_T60 l0_1 (i : Int)).f6] 60))
      clear hx0 hx1 hx2 hx3 hx4 hx5 hx6
      generalize wr.alloc (.cells #[.int .i64 (rd_T60 l0_1 (i : Int)).f0, .int .i64 (rd_T60 l0_1 (i : Int)).f1, .string (rd_T60 l0_1 (i : Int)).f2, .string (rd_T60 l0_1 (i : Int)).f3, .int .i64 (rd_T60 l0_1 (i : Int)).f4, .int .i64 (rd_T60 l0_1 (i : Int)).f5, .bool (rd_T60 l0_1 (i : Int)).f6] 60) = W1 at HX HT1 HB1 ⊢
      generalize wr.heap.size = gX at HS HX ⊢
      clear HB HT
      have hX0 : W1.cell? ⟨gX, 0, none⟩ = some (.int .i64 (rd_T60 l0_1 (i : Int)).f0) := (blk_cell HX.out 0).trans rfl
      have hX1 : W1.cell? ⟨gX, 1, none⟩ = some (.int .i64 (rd_T60 l0_1 (i : Int)).f1) := (blk_cell HX.out 1).trans rfl
      have hX2 : W1.cell? ⟨gX, 2, none⟩ = some (.string (rd_T60 l0_1 (i : Int)).f2) := (blk_cell HX.out 2).trans rfl
      have hX3 : W1.cell? ⟨gX, 3, none⟩ = some (.string (rd_T60 l0_1 (i : Int)).f3) := (blk_cell HX.out 3).trans rfl
      have hX4 : W1.cell? ⟨gX, 4, none⟩ = some (.int .i64 (rd_T60 l0_1 (i : Int)).f4) := (blk_cell HX.out 4).trans rfl
      have hX5 : W1.cell? ⟨gX, 5, none⟩ = some (.int .i64 (rd_T60 l0_1 (i : Int)).f5) := (blk_cell HX.out 5).trans rfl
      have hT1 : W1.cell? ⟨w.heap.size, 1, none⟩ = some (.slice (some ad) l0_1.length c0_1) := (blk_cell HT1.out 1).trans rfl
      go_cut [78] (fun v78 wc => ∃ m, wc = W1.drewN m ∧ v78 = .bool (badB l0_1 i))
      case first =>
        have hbad : badB l0_1 i = badB l0_1 i := rfl
        conv at hbad => rhs; unfold badB
        have HBAD := Aside0.mk hbad
        clear hbad
        have hprev : 0 < i → W1.cell? (ad.add ((i - 1) * 7)) = some (.int .i64 (rd_T60 l0_1 ((i : Int) - 1)).f0) := fun hz => by
          obtain ⟨ad', e, hy, _⟩ := at_T60 HC.out ((i : Int) - 1) (by omega) (by omega)
          injection e with e
          subst e
          rw [show ((i : Int) - 1).toNat = i - 1 by omega] at hy
          exact (HB1.out.cell (World.block_lt_of_cell? w _ hy)).trans hy
        clear hX1 hlt hi hg
        obtain ⟨bad, hb0⟩ : ∃ bad, bad = badB l0_1 i := ⟨_, rfl⟩
        have HB0 := Aside0.mk hb0
        replace HBAD := Aside0.mk (hb0.trans HBAD.out)
        clear hb0
        generalize (rd_T60 l0_1 (i : Int)) = x at *
        by_cases c1 : x.f0 < 1
        · have c1b := decide_eq_true c1
          have c1c : decide (x.f0 < 1) = true := decide_eq_true (by omega)
          clear c1
          have HV := Aside0.mk (show bad = true by rw [HBAD.out]; simp [c1c])
          clear HBAD
          go_quiet (fail)
          go_wp2
          go_meet
          case rel => exact ⟨_, rfl, by rw [← HB0.out, HV.out]⟩
        · have c1b := decide_eq_false c1
          have c1c : decide (x.f0 < 1) = false := decide_eq_false (by omega)
          clear c1
          rcases Nat.eq_zero_or_pos i with hz | hz
          · have c2b : decide (0 < (i : Int)) = false := decide_eq_false (by omega)
            have c2c : decide (0 < i) = false := decide_eq_false (by omega)
            clear hz hprev
            cases hq0 : nameB x.f2 with
            | false =>
              have HQ0 := Aside0.mk (fun W => specName_of x.f2 hq0 W)
              have HV := Aside0.mk (show bad = true by rw [HBAD.out]; simp [c1c, c2c, hq0])
              clear HBAD
              go_quiet (first | (go_at_call_of 39 (x.f2); exact Calls.quiet_of (HQ0.out _)))
              go_wp2
              go_meet
              case rel => exact ⟨_, rfl, by rw [← HB0.out, HV.out]⟩
            | true =>
              have HQ0 := Aside0.mk (fun W => specName_of x.f2 hq0 W)
              cases hq1 : nameB x.f3 with
              | false =>
                have HQ1 := Aside0.mk (fun W => specName_of x.f3 hq1 W)
                have HV := Aside0.mk (show bad = true by rw [HBAD.out]; simp [c1c, c2c, hq0, hq1])
                clear HBAD
                go_quiet (first | (go_at_call_of 39 (x.f2); exact Calls.quiet_of (HQ0.out _)) | (go_at_call_of 39 (x.f3); exact Calls.quiet_of (HQ1.out _)))
                go_wp2
                go_meet
                case rel => exact ⟨_, rfl, by rw [← HB0.out, HV.out]⟩
              | true =>
                have HQ1 := Aside0.mk (fun W => specName_of x.f3 hq1 W)
                cases hq2 : timeB x.f4 with
                | false =>
                  have HQ2 := Aside0.mk (fun W => specTime_of x.f4 hq2 W)
                  have HV := Aside0.mk (show bad = true by rw [HBAD.out]; simp [c1c, c2c, hq0, hq1, hq2])
                  clear HBAD
                  go_quiet (first | (go_at_call_of 39 (x.f2); exact Calls.quiet_of (HQ0.out _)) | (go_at_call_of 39 (x.f3); exact Calls.quiet_of (HQ1.out _)) | (go_at_call_of 38 (x.f4); exact Calls.quiet_of (HQ2.out _)))
                  go_wp2
                  go_meet
                  case rel => exact ⟨_, rfl, by rw [← HB0.out, HV.out]⟩
                | true =>
                  have HQ2 := Aside0.mk (fun W => specTime_of x.f4 hq2 W)
                  cases hq3 : timeB x.f5 with
                  | false =>
                    have HQ3 := Aside0.mk (fun W => specTime_of x.f5 hq3 W)
                    have HV := Aside0.mk (show bad = true by rw [HBAD.out]; simp [c1c, c2c, hq0, hq1, hq2, hq3])
                    clear HBAD
                    go_quiet (first | (go_at_call_of 39 (x.f2); exact Calls.quiet_of (HQ0.out _)) | (go_at_call_of 39 (x.f3); exact Calls.quiet_of (HQ1.out _)) | (go_at_call_of 38 (x.f4); exact Calls.quiet_of (HQ2.out _)) | (go_at_call_of 38 (x.f5); exact Calls.quiet_of (HQ3.out _)))
                    go_wp2
                    go_meet
                    case rel => exact ⟨_, rfl, by rw [← HB0.out, HV.out]⟩
                  | true =>
                    have HQ3 := Aside0.mk (fun W => specTime_of x.f5 hq3 W)
                    have HV := Aside0.mk (show bad = decide (x.f5 < x.f4) by rw [HBAD.out]; simp [c1c, c2c, hq0, hq1, hq2, hq3])
                    clear HBAD
                    go_quiet (first | (go_at_call_of 39 (x.f2); exact Calls.quiet_of (HQ0.out _)) | (go_at_call_of 39 (x.f3); exact Calls.quiet_of (HQ1.out _)) | (go_at_call_of 38 (x.f4); exact Calls.quiet_of (HQ2.out _)) | (go_at_call_of 38 (x.f5); exact Calls.quiet_of (HQ3.out _)))
                    go_wp2
                    go_meet
                    case rel => exact ⟨_, rfl, by rw [← HB0.out, HV.out]⟩
          · have c2b : decide (0 < (i : Int)) = true := decide_eq_true (by omega)
            have c2c : decide (0 < i) = true := decide_eq_true (by omega)
            have hpr := hprev hz
            obtain ⟨hw1, hw2, hw3, _⟩ := prev_facts hz hltz hmax
            clear hz hprev
            generalize (rd_T60 l0_1 ((i : Int) - 1)) = y at *
            by_cases c3 : x.f0 ≤ y.f0
            · have c3b := decide_eq_true c3
              clear c3
              have HV := Aside0.mk (show bad = true by rw [HBAD.out]; simp [c1c, c2c, c3b])
              clear HBAD
              go_quiet (fail)
              go_wp2
              go_meet
              case rel => exact ⟨_, rfl, by rw [← HB0.out, HV.out]⟩
            · have c3b := decide_eq_false c3
              clear c3
              cases hq0 : nameB x.f2 with
              | false =>
                have HQ0 := Aside0.mk (fun W => specName_of x.f2 hq0 W)
                have HV := Aside0.mk (show bad = true by rw [HBAD.out]; simp [c1c, c2c, c3b, hq0])
                clear HBAD
                go_quiet (first | (go_at_call_of 39 (x.f2); exact Calls.quiet_of (HQ0.out _)))
                go_wp2
                go_meet
                case rel => exact ⟨_, rfl, by rw [← HB0.out, HV.out]⟩
              | true =>
                have HQ0 := Aside0.mk (fun W => specName_of x.f2 hq0 W)
                cases hq1 : nameB x.f3 with
                | false =>
                  have HQ1 := Aside0.mk (fun W => specName_of x.f3 hq1 W)
                  have HV := Aside0.mk (show bad = true by rw [HBAD.out]; simp [c1c, c2c, c3b, hq0, hq1])
                  clear HBAD
                  go_quiet (first | (go_at_call_of 39 (x.f2); exact Calls.quiet_of (HQ0.out _)) | (go_at_call_of 39 (x.f3); exact Calls.quiet_of (HQ1.out _)))
                  go_wp2
                  go_meet
                  case rel => exact ⟨_, rfl, by rw [← HB0.out, HV.out]⟩
                | true =>
                  have HQ1 := Aside0.mk (fun W => specName_of x.f3 hq1 W)
                  cases hq2 : timeB x.f4 with
                  | false =>
                    have HQ2 := Aside0.mk (fun W => specTime_of x.f4 hq2 W)
                    have HV := Aside0.mk (show bad = true by rw [HBAD.out]; simp [c1c, c2c, c3b, hq0, hq1, hq2])
                    clear HBAD
                    go_quiet (first | (go_at_call_of 39 (x.f2); exact Calls.quiet_of (HQ0.out _)) | (go_at_call_of 39 (x.f3); exact Calls.quiet_of (HQ1.out _)) | (go_at_call_of 38 (x.f4); exact Calls.quiet_of (HQ2.out _)))
                    go_wp2
                    go_meet
                    case rel => exact ⟨_, rfl, by rw [← HB0.out, HV.out]⟩
                  | true =>
                    have HQ2 := Aside0.mk (fun W => specTime_of x.f4 hq2 W)
                    cases hq3 : timeB x.f5 with
                    | false =>
                      have HQ3 := Aside0.mk (fun W => specTime_of x.f5 hq3 W)
                      have HV := Aside0.mk (show bad = true by rw [HBAD.out]; simp [c1c, c2c, c3b, hq0, hq1, hq2, hq3])
                      clear HBAD
                      go_quiet (first | (go_at_call_of 39 (x.f2); exact Calls.quiet_of (HQ0.out _)) | (go_at_call_of 39 (x.f3); exact Calls.quiet_of (HQ1.out _)) | (go_at_call_of 38 (x.f4); exact Calls.quiet_of (HQ2.out _)) | (go_at_call_of 38 (x.f5); exact Calls.quiet_of (HQ3.out _)))
                      go_wp2
                      go_meet
                      case rel => exact ⟨_, rfl, by rw [← HB0.out, HV.out]⟩
                    | true =>
                      have HQ3 := Aside0.mk (fun W => specTime_of x.f5 hq3 W)
                      have HV := Aside0.mk (show bad = decide (x.f5 < x.f4) by rw [HBAD.out]; simp [c1c, c2c, c3b, hq0, hq1, hq2, hq3])
                      clear HBAD
                      go_quiet (first | (go_at_call_of 39 (x.f2); exact Calls.quiet_of (HQ0.out _)) | (go_at_call_of 39 (x.f3); exact Calls.quiet_of (HQ1.out _)) | (go_at_call_of 38 (x.f4); exact Calls.quiet_of (HQ2.out _)) | (go_at_call_of 38 (x.f5); exact Calls.quiet_of (HQ3.out _)))
                      go_wp2
                      go_meet
                      case rel => exact ⟨_, rfl, by rw [← HB0.out, HV.out]⟩
      case rest =>
        obtain ⟨m, hm, rfl⟩ := hcut
        replace HX : Aside0 (wc.heap[gX]? = some (.cells #[.int .i64 (rd_T60 l0_1 (i : Int)).f0, .int .i64 (rd_T60 l0_1 (i : Int)).f1, .string (rd_T60 l0_1 (i : Int)).f2, .string (rd_T60 l0_1 (i : Int)).f3, .int .i64 (rd_T60 l0_1 (i : Int)).f4, .int .i64 (rd_T60 l0_1 (i : Int)).f5, .bool (rd_T60 l0_1 (i : Int)).f6] 60 (0, 0))) := ⟨by rw [hm]; exact HX.out⟩
        replace HT1 : Aside0 (wc.heap[w.heap.size]? = some (.cells #[.int .i64 a0_0, .slice (some ad) l0_1.length c0_1] 51 (0, 0))) := ⟨by rw [hm]; exact HT1.out⟩
        replace HB1 : Aside0 (Below w.heap.size w wc) := ⟨by rw [hm]; exact pw_below_drewN HB1.out m⟩
        clear hX0 hX1 hX2 hX3 hX4 hX5 hT1 hm
        have hX1 : wc.cell? ⟨gX, 1, none⟩ = some (.int .i64 (rd_T60 l0_1 (i : Int)).f1) := (blk_cell HX.out 1).trans rfl
        have hX4 : wc.cell? ⟨gX, 4, none⟩ = some (.int .i64 (rd_T60 l0_1 (i : Int)).f4) := (blk_cell HX.out 4).trans rfl
        have hT1 : wc.cell? ⟨w.heap.size, 1, none⟩ = some (.slice (some ad) l0_1.length c0_1) := (blk_cell HT1.out 1).trans rfl
        cases hbad : badB l0_1 i with
        | true =>
          have HV := Aside0.mk (show r = false by rw [HI2.out, ok_bad hbad]; rfl)
          clear hbad
          go_wp2
          go_ret
          exact ⟨by rw [HV.out]; rfl, HB1.out⟩
        | false =>
          have HOK := Aside0.mk (ok_kid hbad)
          clear hbad
          rcases Nat.eq_zero_or_pos i with hz | hz
          · have hzb : ((i : Int) == 0) = true := beq_iff_eq.2 (by omega)
            by_cases hp : (rd_T60 l0_1 (i : Int)).f1 = 0
            · have HV := Aside0.mk (show r = (List.range' (i + 1) (l0_1.length - (i + 1))).all (okB l0_1) by
                rw [HI2.out, HOK.out]
                subst hz
                rw [kid_zero, decide_eq_true hp]
                rfl)
              have hpb : ((rd_T60 l0_1 (i : Int)).f1 != 0) = false := bne_eq_false_iff_eq.2 hp
              clear hz hp
              go_wp2
              go_roundg (l0_1.length - (i + 1))
              case measure => omega
              case rel => exact ⟨i + 1, by omega, by omega, by go_num, ⟨HB1.out⟩, ⟨HT1.out⟩, HV⟩
            · have HV := Aside0.mk (show r = false by
                rw [HI2.out, HOK.out]
                subst hz
                rw [kid_zero, decide_eq_false hp]
                rfl)
              have hpb : ((rd_T60 l0_1 (i : Int)).f1 != 0) = true := bne_iff_ne.2 hp
              clear hz hp
              go_wp2
              go_ret
              exact ⟨by rw [HV.out]; rfl, HB1.out⟩
          · have hzb : ((i : Int) == 0) = false := beq_eq_false_iff_ne.2 (by omega)
            have hile : i ≤ c0_1 := by have := HCC.out; omega
            rcases specParent HC.out HCC.out hmax i hlt (rd_T60 l0_1 (i : Int)).f1 with ⟨hpar, hcall⟩ | ⟨j, hj, hpar, hcall⟩
            · have HV := Aside0.mk (show r = false by rw [HI2.out, HOK.out, kid_none hz hpar]; rfl)
              have HCALL := Aside0.mk hcall
              clear hz hpar hcall
              go_upto_region 11 with (fail)
              go_still_tail 6, (by kernel_rfl)
              change wpList _ _ _ _ _ wc.drew
              have HB2 := Aside0.mk (below_drew HB1.out)
              have HX2 : Aside0 (wc.drew.heap[gX]? = some (.cells #[.int .i64 (rd_T60 l0_1 (i : Int)).f0, .int .i64 (rd_T60 l0_1 (i : Int)).f1, .string (rd_T60 l0_1 (i : Int)).f2, .string (rd_T60 l0_1 (i : Int)).f3, .int .i64 (rd_T60 l0_1 (i : Int)).f4, .int .i64 (rd_T60 l0_1 (i : Int)).f5, .bool (rd_T60 l0_1 (i : Int)).f6] 60 (0, 0))) := ⟨HX.out⟩
              have HT2 : Aside0 (wc.drew.heap[w.heap.size]? = some (.cells #[.int .i64 a0_0, .slice (some ad) l0_1.length c0_1] 51 (0, 0))) := ⟨HT1.out⟩
              clear HX HT1 HB1 hX1 hX4 hT1
              generalize wc.drew = w2 at HB2 HX2 HT2 ⊢
              go_wp2_with (go_at_call 55; refine (HCALL.out _ HB2.out).mono ?_; rintro e w3 ⟨rfl, hb⟩)
              have HB3 := Aside0.mk (below_step HB2.out hb)
              have HX3 := Aside0.mk ((hb.block gX (blk_lt HX2.out)).trans HX2.out)
              have HT3 := Aside0.mk ((hb.block w.heap.size (blk_lt HT2.out)).trans HT2.out)
              clear HB2 HX2 HT2 HCALL hb
              have hX4 : w3.cell? ⟨gX, 4, none⟩ = some (.int .i64 (rd_T60 l0_1 (i : Int)).f4) := (blk_cell HX3.out 4).trans rfl
              have hT1 : w3.cell? ⟨w.heap.size, 1, none⟩ = some (.slice (some ad) l0_1.length c0_1) := (blk_cell HT3.out 1).trans rfl
              go_quiet (fail)
              go_wp2
              go_ret
              exact ⟨by rw [HV.out]; rfl, pw_below_drewN HB3.out _⟩
            · have hjz : (j : Int) < (l0_1.length : Int) := by omega
              obtain ⟨ad', e, _, _, _, _, hy4, _, _⟩ := at_T60 HC.out (j : Int) (by omega) hjz
              injection e with e
              subst e
              rw [Int.toNat_natCast] at hy4
              have HCALL := Aside0.mk hcall
              have hj0 : decide ((j : Int) < 0) = false := decide_eq_false (by omega)
              by_cases hf : (rd_T60 l0_1 (i : Int)).f4 < (rd_T60 l0_1 (j : Int)).f4
              · have HV := Aside0.mk (show r = false by rw [HI2.out, HOK.out, kid_some hz hpar, decide_eq_false (by omega)]; rfl)
                have hfb := decide_eq_true hf
                clear hz hpar hcall hf
                go_upto_region 11 with (fail)
                go_still_tail 6, (by kernel_rfl)
                change wpList _ _ _ _ _ wc.drew
                have HB2 := Aside0.mk (below_drew HB1.out)
                have HX2 : Aside0 (wc.drew.heap[gX]? = some (.cells #[.int .i64 (rd_T60 l0_1 (i : Int)).f0, .int .i64 (rd_T60 l0_1 (i : Int)).f1, .string (rd_T60 l0_1 (i : Int)).f2, .string (rd_T60 l0_1 (i : Int)).f3, .int .i64 (rd_T60 l0_1 (i : Int)).f4, .int .i64 (rd_T60 l0_1 (i : Int)).f5, .bool (rd_T60 l0_1 (i : Int)).f6] 60 (0, 0))) := ⟨HX.out⟩
                have HT2 : Aside0 (wc.drew.heap[w.heap.size]? = some (.cells #[.int .i64 a0_0, .slice (some ad) l0_1.length c0_1] 51 (0, 0))) := ⟨HT1.out⟩
                clear HX HT1 HB1 hX1 hX4 hT1
                generalize wc.drew = w2 at HB2 HX2 HT2 ⊢
                go_wp2_with (go_at_call 55; refine (HCALL.out _ HB2.out).mono ?_; rintro e w3 ⟨rfl, hb⟩)
                have HB3 := Aside0.mk (below_step HB2.out hb)
                have HX3 := Aside0.mk ((hb.block gX (blk_lt HX2.out)).trans HX2.out)
                have HT3 := Aside0.mk ((hb.block w.heap.size (blk_lt HT2.out)).trans HT2.out)
                clear HB2 HX2 HT2 HCALL hb
                have hX4 : w3.cell? ⟨gX, 4, none⟩ = some (.int .i64 (rd_T60 l0_1 (i : Int)).f4) := (blk_cell HX3.out 4).trans rfl
                have hT1 : w3.cell? ⟨w.heap.size, 1, none⟩ = some (.slice (some ad) l0_1.length c0_1) := (blk_cell HT3.out 1).trans rfl
                replace hy4 := pw_cell_below HB3.out hy4
                go_quiet (fail)
                go_wp2
                go_ret
                exact ⟨by rw [HV.out]; rfl, pw_below_drewN HB3.out _⟩
              · have HV := Aside0.mk (show r = (List.range' (i + 1) (l0_1.length - (i + 1))).all (okB l0_1) by rw [HI2.out, HOK.out, kid_some hz hpar, decide_eq_true (by omega)]; rfl)
                have hfb := decide_eq_false hf
                clear hz hpar hcall hf
                go_upto_region 11 with (fail)
                go_still_tail 6, (by kernel_rfl)
                change wpList _ _ _ _ _ wc.drew
                have HB2 := Aside0.mk (below_drew HB1.out)
                have HX2 : Aside0 (wc.drew.heap[gX]? = some (.cells #[.int .i64 (rd_T60 l0_1 (i : Int)).f0, .int .i64 (rd_T60 l0_1 (i : Int)).f1, .string (rd_T60 l0_1 (i : Int)).f2, .string (rd_T60 l0_1 (i : Int)).f3, .int .i64 (rd_T60 l0_1 (i : Int)).f4, .int .i64 (rd_T60 l0_1 (i : Int)).f5, .bool (rd_T60 l0_1 (i : Int)).f6] 60 (0, 0))) := ⟨HX.out⟩
                have HT2 : Aside0 (wc.drew.heap[w.heap.size]? = some (.cells #[.int .i64 a0_0, .slice (some ad) l0_1.length c0_1] 51 (0, 0))) := ⟨HT1.out⟩
                clear HX HT1 HB1 hX1 hX4 hT1
                generalize wc.drew = w2 at HB2 HX2 HT2 ⊢
                go_wp2_with (go_at_call 55; refine (HCALL.out _ HB2.out).mono ?_; rintro e w3 ⟨rfl, hb⟩)
                have HB3 := Aside0.mk (below_step HB2.out hb)
                have HX3 := Aside0.mk ((hb.block gX (blk_lt HX2.out)).trans HX2.out)
                have HT3 := Aside0.mk ((hb.block w.heap.size (blk_lt HT2.out)).trans HT2.out)
                clear HB2 HX2 HT2 HCALL hb
                have hX4 : w3.cell? ⟨gX, 4, none⟩ = some (.int .i64 (rd_T60 l0_1 (i : Int)).f4) := (blk_cell HX3.out 4).trans rfl
                have hT1 : w3.cell? ⟨w.heap.size, 1, none⟩ = some (.slice (some ad) l0_1.length c0_1) := (blk_cell HT3.out 1).trans rfl
                replace hy4 := pw_cell_below HB3.out hy4
                go_quiet (fail)
                go_wp2
                go_roundg (l0_1.length - (i + 1))
                case measure => omega
                case rel => exact ⟨i + 1, by omega, by omega, by go_num, ⟨pw_below_drewN HB3.out _⟩, ⟨HT3.out⟩, HV⟩
    · obtain rfl : i = l0_1.length := by omega
      have HV := Aside0.mk (show r = true by rw [HI.out, Nat.sub_self]; rfl)
      clear HI
      go_wp2
      go_ret
      exact ⟨by rw [HV.out]; rfl, HB.out⟩
end Go.Proofs.YthcamcmjafhehaaDoor.PFnExactKeepTraces
