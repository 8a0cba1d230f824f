/- The program's GoodBoard: what it computes, as the printed functions want their callees. -/
import Derived.Test.YtcemokegafijnaaHBoardAny
import Derived.StillTailTactics
namespace Go.Proofs.Ytcemokegafijnaa.PFnExactGoodBoard
attribute [local go_sem] Go.Proofs.Ytcemokegafijnaa.Cmp.str_gtr Go.Proofs.Ytcemokegafijnaa.Cmp.str_geq Go.Proofs.Ytcemokegafijnaa.Cmp.str_leq
open Go.RowKit Go.Proofs.YtcemokegafijnaaW.PrintWords Go.Proofs.YtcemokegafijnaaW.PrintLast Go.Proofs.YtcemokegafijnaaW.PrintMore Go.Proofs.Ytcemokegafijnaa.Evs Go.Proofs.Ytcemokegafijnaa.AFnExactGoodBoard Go.Proofs.Ytcemokegafijnaa.TxtFnExactGoodBoard
set_option linter.unusedVariables false
set_option linter.unusedSimpArgs false
set_option maxHeartbeats 8000000 in
set_option maxRecDepth 100000 in
theorem impl_GoodBoard.calls (A0 : Option Addr) (c0 : Nat) (v : List SV) (A1 : Option Addr) (c1 : Nat) (p : List SP) (r : Bool) (w : World) (hr0 : Kd.C k39 w A0 v.length v) (hc0 : v.length ≤ c0) (hr1 : Kd.C k46 w A1 p.length p) (hc1 : p.length ≤ c1) (h : impl_GoodBoard.f v p = some r) :
    Calls Try.prog 7 #[.agg #[.slice A0 v.length c0, .slice A1 p.length c1]] w fun e w' => e = .returned (.bool r) ∧ Below w.heap.size w w' := by
  obtain ⟨hsm, hr⟩ := guardW_some h
  have HSM := Aside0.mk hsm
  have HR := Aside0.mk hr
  clear h hsm hr
  by_cases hl : 10 < v.length
  · have e : r = false := by rw [← HR.out]; unfold boardB; rw [decide_eq_false (by omega : ¬ v.length ≤ 10)]; rfl
    subst e
    have hlb : decide (10 < v.length) = true := decide_eq_true hl
    have hlb2 : decide (10 < (v.length : Int)) = true := decide_eq_true (by omega)
    clear hl
    go_enter Try.func7, Try.ntmps7
    go_wp2
    go_ret
    exact ⟨rfl, (Below.refl _ _).alloc (Nat.le_refl _) _⟩
  by_cases hp : 20 < p.length
  · have e : r = false := by rw [← HR.out]; unfold boardB; rw [decide_eq_true (by omega : v.length ≤ 10), decide_eq_false (by omega : ¬ p.length ≤ 20)]; rfl
    subst e
    have hlb : decide (10 < v.length) = false := decide_eq_false hl
    have hlb2 : decide (10 < (v.length : Int)) = false := decide_eq_false (by omega)
    have hpb : decide (20 < p.length) = true := decide_eq_true hp
    have hpb2 : decide (20 < (p.length : Int)) = true := decide_eq_true (by omega)
    clear hl hp
    go_enter Try.func7, Try.ntmps7
    go_wp2
    go_ret
    exact ⟨rfl, (Below.refl _ _).alloc (Nat.le_refl _) _⟩
  have e : r = ((List.range' 0 v.length).all (varOk v) && (List.range' 0 p.length).all (panelOk p)) := by rw [← HR.out]; unfold boardB; rw [decide_eq_true (by omega : v.length ≤ 10), decide_eq_true (by omega : p.length ≤ 20)]; rfl
  have HE := Aside0.mk e
  clear HR e
  have HC0 := Aside0.mk hr0
  have HC1 := Aside0.mk hr1
  have hmax : v.length ≤ 400 := by omega
  have hmax2 : p.length ≤ 400 := by omega
  have hlb : decide (10 < v.length) = false := decide_eq_false hl
  have hlb2 : decide (10 < (v.length : Int)) = false := decide_eq_false (by omega)
  have hpb : decide (20 < p.length) = false := decide_eq_false hp
  have hpb2 : decide (20 < (p.length : Int)) = false := decide_eq_false (by omega)
  clear hl hp hr0 hc0 hr1 hc1
  go_enter Try.func7, Try.ntmps7
  go_wp2
  clear hlb hlb2 hpb hpb2
  go_loopg [20] v.length (fun gg s1 wr => ∃ i : Nat, i ≤ v.length ∧ v.length - i ≤ gg ∧ s1 = .int .i64 i ∧ Aside0 (Below w.heap.size w wr) ∧ Aside0 (wr.heap[w.heap.size]? = some (.cells #[.slice A0 v.length c0, .slice A1 p.length c1] 31 (0, 0))) ∧ Aside0 (r = ((List.range' i (v.length - i)).all (varOk v) && (List.range' 0 p.length).all (panelOk p))))
  case atStart => exact ⟨0, Nat.zero_le _, by omega, rfl, ⟨(Below.refl _ _).alloc (Nat.le_refl _) _⟩, ⟨blk_new w _⟩, HE⟩
  case round =>
    clear HE
    obtain ⟨i, hi, hg, rfl, HB, HT, HI⟩ := hrel
    by_cases hlt : i < v.length
    · have e : r = (varOk v i && ((List.range' (i + 1) (v.length - (i + 1))).all (varOk v) && (List.range' 0 p.length).all (panelOk p))) := by
        rw [HI.out, show v.length - i = v.length - (i + 1) + 1 by omega, range'_all, Bool.and_assoc]
      have HI2 := Aside0.mk e
      clear e HI
      have hltz : (i : Int) < (v.length : Int) := by omega
      obtain ⟨ad, A2, c2, rfl, hx0, hx1, hx2, hct, hCT⟩ := at_T39 HC0.out (i : Int) (by omega) (by omega)
      have HCT := Aside0.mk hCT
      have HCTc := Aside0.mk hct
      clear hCT hct
      rw [Int.toNat_natCast] at hx0 hx1 hx2
      replace hx0 := (HB.out.cell (World.block_lt_of_cell? w _ hx0)).trans hx0
      replace hx1 := (HB.out.cell (World.block_lt_of_cell? w _ hx1)).trans hx1
      replace hx2 := (HB.out.cell (World.block_lt_of_cell? w _ hx2)).trans hx2
      go_upto_region 6 with (fail)
      have HS := Aside0.mk (show w.heap.size < wr.heap.size from blk_lt HT.out)
      have HX := Aside0.mk (blk_new wr (.cells #[.string (rd_T39 v (i : Int)).f0, .string (rd_T39 v (i : Int)).f1, .slice A2 (rd_T39 v (i : Int)).f2.length c2] 39))
      have HT1 := Aside0.mk ((Below.heap_alloc wr (.cells #[.string (rd_T39 v (i : Int)).f0, .string (rd_T39 v (i : Int)).f1, .slice A2 (rd_T39 v (i : Int)).f2.length c2] 39) w.heap.size (blk_lt HT.out)).trans HT.out)
      have HB1 := Aside0.mk (below_alloc HB.out (.cells #[.string (rd_T39 v (i : Int)).f0, .string (rd_T39 v (i : Int)).f1, .slice A2 (rd_T39 v (i : Int)).f2.length c2] 39))
      clear hx0 hx1 hx2
      generalize wr.alloc (.cells #[.string (rd_T39 v (i : Int)).f0, .string (rd_T39 v (i : Int)).f1, .slice A2 (rd_T39 v (i : Int)).f2.length c2] 39) = W1 at HX HT1 HB1 ⊢
      generalize wr.heap.size = gX at HX HS ⊢
      clear HB HT
      have hX0 : W1.cell? ⟨gX, 0, none⟩ = some (.string (rd_T39 v (i : Int)).f0) := (blk_cell HX.out 0).trans rfl
      have hX1 : W1.cell? ⟨gX, 1, none⟩ = some (.string (rd_T39 v (i : Int)).f1) := (blk_cell HX.out 1).trans rfl
      have hX2 : W1.cell? ⟨gX, 2, none⟩ = some (.slice A2 (rd_T39 v (i : Int)).f2.length c2) := (blk_cell HX.out 2).trans rfl
      have hT0 : W1.cell? ⟨w.heap.size, 0, none⟩ = some (.slice (some ad) v.length c0) := (blk_cell HT1.out 0).trans rfl
      go_cut [67] (fun v1 wc => ∃ m, wc = W1.drewN m ∧ v1 = .bool (varBad v i))
      case first =>
        have hbad : varBad v i = varBad v i := rfl
        conv at hbad => rhs; unfold varBad headBad
        obtain ⟨bad, hb0⟩ : ∃ bad, bad = varBad v i := ⟨_, rfl⟩
        have HB0 := Aside0.mk hb0
        have HBAD := Aside0.mk (hb0.trans hbad)
        have HSX := Aside0.mk (small_var HSM.out i hlt)
        clear hb0 hbad hi hg
        generalize (rd_T39 v (i : Int)) = x at *
        cases h1 : nameB x.f0 with
        | false =>
          have HN0 := Aside0.mk (fun W => implName_of x.f0 h1 W)
          have HV := Aside0.mk (show bad = true by rw [HBAD.out]; simp only [h1, Bool.not_true, Bool.not_false, Bool.false_or, Bool.true_or, Bool.or_true, Bool.or_false, Bool.true_and, Bool.false_and, Bool.and_true])
          clear HBAD
          go_quiet (first | (go_at_call_of 18 (x.f0); exact Calls.quiet_of (HN0.out _)))
          go_wp2
          go_meet
          case rel => exact ⟨_, rfl, by rw [← HB0.out, HV.out]⟩
        | true =>
          have HN0 := Aside0.mk (fun W => implName_of x.f0 h1 W)
          rcases Nat.eq_zero_or_pos i with hz | hz
          · skip
            have hz2 : decide (0 < (i : Int)) = false := decide_eq_false (by omega)
            have hz3 : decide (0 < i) = false := decide_eq_false (by omega)
            clear hz
            cases h2 : nameB x.f1 with
            | false =>
              have HN1 := Aside0.mk (fun W => implName_of x.f1 h2 W)
              have HV := Aside0.mk (show bad = true by rw [HBAD.out]; simp only [h1, hz3, h2, Bool.not_true, Bool.not_false, Bool.false_or, Bool.true_or, Bool.or_true, Bool.or_false, Bool.true_and, Bool.false_and, Bool.and_true])
              clear HBAD
              go_quiet (first | (go_at_call_of 18 (x.f0); exact Calls.quiet_of (HN0.out _)) | (go_at_call_of 18 (x.f1); exact Calls.quiet_of (HN1.out _)))
              go_wp2
              go_meet
              case rel => exact ⟨_, rfl, by rw [← HB0.out, HV.out]⟩
            | true =>
              have HN1 := Aside0.mk (fun W => implName_of x.f1 h2 W)
              by_cases hn : 10 < x.f2.length
              · have hnb : decide (10 < x.f2.length) = true := decide_eq_true hn
                have hnz : decide (10 < (x.f2.length : Int)) = true := decide_eq_true (by omega)
                clear hn
                have HV := Aside0.mk (show bad = true by rw [HBAD.out]; simp only [h1, hz3, h2, hnb, Bool.not_true, Bool.not_false, Bool.false_or, Bool.true_or, Bool.or_true, Bool.or_false, Bool.true_and, Bool.false_and, Bool.and_true])
                clear HBAD
                go_quiet (first | (go_at_call_of 18 (x.f0); exact Calls.quiet_of (HN0.out _)) | (go_at_call_of 18 (x.f1); exact Calls.quiet_of (HN1.out _)))
                go_wp2
                go_meet
                case rel => exact ⟨_, rfl, by rw [← HB0.out, HV.out]⟩
              · have hnb : decide (10 < x.f2.length) = false := decide_eq_false hn
                have hnz : decide (10 < (x.f2.length : Int)) = false := decide_eq_false (by omega)
                clear hn
                cases h3 : risingB x.f2 with
                | false =>
                  have HRI := Aside0.mk (implRising_of HSX.out.2.1 HCT.out HCTc.out h3)
                  have HV := Aside0.mk (show bad = true by rw [HBAD.out]; simp only [h1, hz3, h2, hnb, h3, Bool.not_true, Bool.not_false, Bool.false_or, Bool.true_or, Bool.or_true, Bool.or_false, Bool.true_and, Bool.false_and, Bool.and_true])
                  clear HBAD
                  go_quiet (first | (go_at_call_of 18 (x.f0); exact Calls.quiet_of (HN0.out _)) | (go_at_call_of 18 (x.f1); exact Calls.quiet_of (HN1.out _)) | (go_at_call 19; exact Calls.quiet_of (HRI.out _ (by repeat (first | exact HB1.out | apply pw_below_drewN | apply below_drew1 | apply below_drew)))))
                  go_wp2
                  go_meet
                  case rel => exact ⟨_, rfl, by rw [← HB0.out, HV.out]⟩
                | true =>
                  have HRI := Aside0.mk (implRising_of HSX.out.2.1 HCT.out HCTc.out h3)
                  have HAN := Aside0.mk (implAny_of HCT.out HSX.out.2.1 (c := c2) (rfl : anyBad x.f2 = _))
                  have HV := Aside0.mk (show bad = anyBad x.f2 by rw [HBAD.out]; simp only [h1, hz3, h2, hnb, h3, Bool.not_true, Bool.not_false, Bool.false_or, Bool.true_or, Bool.or_true, Bool.or_false, Bool.true_and, Bool.false_and, Bool.and_true])
                  clear HBAD
                  go_quiet (first | (go_at_call_of 18 (x.f0); exact Calls.quiet_of (HN0.out _)) | (go_at_call_of 18 (x.f1); exact Calls.quiet_of (HN1.out _)) | (go_at_call 19; exact Calls.quiet_of (HRI.out _ (by repeat (first | exact HB1.out | apply pw_below_drewN | apply below_drew1 | apply below_drew)))) | (go_at_call 20; exact Calls.quiet_of (HAN.out _ (by repeat (first | exact HB1.out | apply pw_below_drewN | apply below_drew1 | apply below_drew)))))
                  go_wp2
                  go_meet
                  case rel => exact ⟨_, rfl, by rw [← HB0.out, HV.out]⟩
          · skip
            have hz2 : decide (0 < (i : Int)) = true := decide_eq_true (by omega)
            have hz3 : decide (0 < i) = true := decide_eq_true (by omega)
            obtain ⟨hw1, hw2, hw3, hw4⟩ := prev_facts hz hltz hmax
            obtain ⟨ad', _, _, e, hprev, _, _, _, _⟩ := at_T39 HC0.out ((i : Int) - 1) hw2 hw3
            injection e with e
            subst e
            rw [show ((i : Int) - 1).toNat = i - 1 by omega] at hprev
            replace hprev := (HB1.out.cell (World.block_lt_of_cell? w _ hprev)).trans hprev
            have hw5 : (1 : Int) ≤ (i : Int) := by omega
            clear hz hw4
            cases hq : Op.bytesLess (rd_T39 v ((i : Int) - 1)).f0.toList x.f0.toList with
            | false =>
              have HV := Aside0.mk (show bad = true by rw [HBAD.out]; simp only [h1, hz3, hq, Bool.not_true, Bool.not_false, Bool.false_or, Bool.true_or, Bool.or_true, Bool.or_false, Bool.true_and, Bool.false_and, Bool.and_true])
              clear HBAD
              go_quiet (first | (go_at_call_of 18 (x.f0); exact Calls.quiet_of (HN0.out _)))
              go_wp2
              go_meet
              case rel => exact ⟨_, rfl, by rw [← HB0.out, HV.out]⟩
            | true =>
              cases h2 : nameB x.f1 with
              | false =>
                have HN1 := Aside0.mk (fun W => implName_of x.f1 h2 W)
                have HV := Aside0.mk (show bad = true by rw [HBAD.out]; simp only [h1, hz3, hq, h2, Bool.not_true, Bool.not_false, Bool.false_or, Bool.true_or, Bool.or_true, Bool.or_false, Bool.true_and, Bool.false_and, Bool.and_true])
                clear HBAD
                go_quiet (first | (go_at_call_of 18 (x.f0); exact Calls.quiet_of (HN0.out _)) | (go_at_call_of 18 (x.f1); exact Calls.quiet_of (HN1.out _)))
                go_wp2
                go_meet
                case rel => exact ⟨_, rfl, by rw [← HB0.out, HV.out]⟩
              | true =>
                have HN1 := Aside0.mk (fun W => implName_of x.f1 h2 W)
                by_cases hn : 10 < x.f2.length
                · have hnb : decide (10 < x.f2.length) = true := decide_eq_true hn
                  have hnz : decide (10 < (x.f2.length : Int)) = true := decide_eq_true (by omega)
                  clear hn
                  have HV := Aside0.mk (show bad = true by rw [HBAD.out]; simp only [h1, hz3, hq, h2, hnb, Bool.not_true, Bool.not_false, Bool.false_or, Bool.true_or, Bool.or_true, Bool.or_false, Bool.true_and, Bool.false_and, Bool.and_true])
                  clear HBAD
                  go_quiet (first | (go_at_call_of 18 (x.f0); exact Calls.quiet_of (HN0.out _)) | (go_at_call_of 18 (x.f1); exact Calls.quiet_of (HN1.out _)))
                  go_wp2
                  go_meet
                  case rel => exact ⟨_, rfl, by rw [← HB0.out, HV.out]⟩
                · have hnb : decide (10 < x.f2.length) = false := decide_eq_false hn
                  have hnz : decide (10 < (x.f2.length : Int)) = false := decide_eq_false (by omega)
                  clear hn
                  cases h3 : risingB x.f2 with
                  | false =>
                    have HRI := Aside0.mk (implRising_of HSX.out.2.1 HCT.out HCTc.out h3)
                    have HV := Aside0.mk (show bad = true by rw [HBAD.out]; simp only [h1, hz3, hq, h2, hnb, h3, Bool.not_true, Bool.not_false, Bool.false_or, Bool.true_or, Bool.or_true, Bool.or_false, Bool.true_and, Bool.false_and, Bool.and_true])
                    clear HBAD
                    go_quiet (first | (go_at_call_of 18 (x.f0); exact Calls.quiet_of (HN0.out _)) | (go_at_call_of 18 (x.f1); exact Calls.quiet_of (HN1.out _)) | (go_at_call 19; exact Calls.quiet_of (HRI.out _ (by repeat (first | exact HB1.out | apply pw_below_drewN | apply below_drew1 | apply below_drew)))))
                    go_wp2
                    go_meet
                    case rel => exact ⟨_, rfl, by rw [← HB0.out, HV.out]⟩
                  | true =>
                    have HRI := Aside0.mk (implRising_of HSX.out.2.1 HCT.out HCTc.out h3)
                    have HAN := Aside0.mk (implAny_of HCT.out HSX.out.2.1 (c := c2) (rfl : anyBad x.f2 = _))
                    have HV := Aside0.mk (show bad = anyBad x.f2 by rw [HBAD.out]; simp only [h1, hz3, hq, h2, hnb, h3, Bool.not_true, Bool.not_false, Bool.false_or, Bool.true_or, Bool.or_true, Bool.or_false, Bool.true_and, Bool.false_and, Bool.and_true])
                    clear HBAD
                    go_quiet (first | (go_at_call_of 18 (x.f0); exact Calls.quiet_of (HN0.out _)) | (go_at_call_of 18 (x.f1); exact Calls.quiet_of (HN1.out _)) | (go_at_call 19; exact Calls.quiet_of (HRI.out _ (by repeat (first | exact HB1.out | apply pw_below_drewN | apply below_drew1 | apply below_drew)))) | (go_at_call 20; exact Calls.quiet_of (HAN.out _ (by repeat (first | exact HB1.out | apply pw_below_drewN | apply below_drew1 | apply below_drew)))))
                    go_wp2
                    go_meet
                    case rel => exact ⟨_, rfl, by rw [← HB0.out, HV.out]⟩
      case rest =>
        obtain ⟨m, hm, rfl⟩ := hcut
        have HB2 : Aside0 (Below w.heap.size w wc) := ⟨by rw [hm]; exact pw_below_drewN HB1.out m⟩
        have HT2 : Aside0 (wc.heap[w.heap.size]? = some (.cells #[.slice (some ad) v.length c0, .slice A1 p.length c1] 31 (0, 0))) := ⟨by rw [hm]; exact HT1.out⟩
        clear HX HT1 HB1 hX0 hX1 hX2 hT0 hm HS
        cases hbad : varBad v i with
        | true =>
          have HV := Aside0.mk (show r = false by rw [HI2.out, var_bad hbad]; rfl)
          clear hbad
          go_wp2
          go_ret
          exact ⟨by rw [HV.out]; rfl, HB2.out⟩
        | false =>
          have HV := Aside0.mk (show r = ((List.range' (i + 1) (v.length - (i + 1))).all (varOk v) && (List.range' 0 p.length).all (panelOk p)) by rw [HI2.out, var_ok hbad]; rfl)
          clear hbad
          go_wp2
          go_roundg (v.length - (i + 1))
          case measure => omega
          case rel => exact ⟨i + 1, by omega, by omega, by go_num, HB2, HT2, HV⟩
    · obtain rfl : i = v.length := by omega
      have HI2 := Aside0.mk (show r = (List.range' 0 p.length).all (panelOk p) by rw [HI.out, Nat.sub_self]; rfl)
      clear HI
      have hT1 : wr.cell? ⟨w.heap.size, 1, none⟩ = some (.slice A1 p.length c1) := (blk_cell HT.out 1).trans rfl
      go_wp2
      go_loopg [72] p.length (fun gg s2 wr => ∃ j : Nat, j ≤ p.length ∧ p.length - j ≤ gg ∧ s2 = .int .i64 j ∧ Aside0 (Below w.heap.size w wr) ∧ Aside0 (r = (List.range' j (p.length - j)).all (panelOk p)))
      case atStart => exact ⟨0, Nat.zero_le _, by omega, rfl, HB, HI2⟩
      case round =>
        clear HB HT HI2 hT1
        obtain ⟨j, hj, hgj, rfl, HB, HI⟩ := hrel
        by_cases hlt2 : j < p.length
        · have e : r = (panelOk p j && (List.range' (j + 1) (p.length - (j + 1))).all (panelOk p)) := by
            rw [HI.out, show p.length - j = p.length - (j + 1) + 1 by omega, range'_all]
          have HI2 := Aside0.mk e
          clear e HI
          have hltz2 : (j : Int) < (p.length : Int) := by omega
          obtain ⟨ad, A3, c3, rfl, hx0, hx1, hx2, hx3, hck, hCK⟩ := at_T46 HC1.out (j : Int) (by omega) (by omega)
          have HCK := Aside0.mk hCK
          have HCKc := Aside0.mk hck
          clear hCK hck
          rw [Int.toNat_natCast] at hx0 hx1 hx2 hx3
          replace hx0 := (HB.out.cell (World.block_lt_of_cell? w _ hx0)).trans hx0
          replace hx1 := (HB.out.cell (World.block_lt_of_cell? w _ hx1)).trans hx1
          replace hx2 := (HB.out.cell (World.block_lt_of_cell? w _ hx2)).trans hx2
          replace hx3 := (HB.out.cell (World.block_lt_of_cell? w _ hx3)).trans hx3
          go_upto_region 12 with (fail)
          have HX := Aside0.mk (blk_new wr (.cells #[.string (rd_T46 p (j : Int)).f0, .string (rd_T46 p (j : Int)).f1, .int .i64 (rd_T46 p (j : Int)).f2, .slice A3 (rd_T46 p (j : Int)).f3.length c3] 46))
          have HB1 := Aside0.mk (below_alloc HB.out (.cells #[.string (rd_T46 p (j : Int)).f0, .string (rd_T46 p (j : Int)).f1, .int .i64 (rd_T46 p (j : Int)).f2, .slice A3 (rd_T46 p (j : Int)).f3.length c3] 46))
          clear hx0 hx1 hx2 hx3
          generalize wr.alloc (.cells #[.string (rd_T46 p (j : Int)).f0, .string (rd_T46 p (j : Int)).f1, .int .i64 (rd_T46 p (j : Int)).f2, .slice A3 (rd_T46 p (j : Int)).f3.length c3] 46) = W1 at HX HB1 ⊢
          generalize wr.heap.size = gX at HX ⊢
          clear HB
          have hX0 : W1.cell? ⟨gX, 0, none⟩ = some (.string (rd_T46 p (j : Int)).f0) := (blk_cell HX.out 0).trans rfl
          have hX1 : W1.cell? ⟨gX, 1, none⟩ = some (.string (rd_T46 p (j : Int)).f1) := (blk_cell HX.out 1).trans rfl
          have hX2 : W1.cell? ⟨gX, 2, none⟩ = some (.int .i64 (rd_T46 p (j : Int)).f2) := (blk_cell HX.out 2).trans rfl
          have hX3 : W1.cell? ⟨gX, 3, none⟩ = some (.slice A3 (rd_T46 p (j : Int)).f3.length c3) := (blk_cell HX.out 3).trans rfl
          go_cut [101] (fun v2 wc => Aside0 (Below w.heap.size w wc) ∧ v2 = .bool (panelBad (rd_T46 p (j : Int))))
          case first =>
            have hbad : panelBad (rd_T46 p (j : Int)) = panelBad (rd_T46 p (j : Int)) := rfl
            conv at hbad => rhs; unfold panelBad
            obtain ⟨bad, hb0⟩ : ∃ bad, bad = panelBad (rd_T46 p (j : Int)) := ⟨_, rfl⟩
            have HB0 := Aside0.mk hb0
            have HBAD := Aside0.mk (hb0.trans hbad)
            have HSY := Aside0.mk (small_panel HSM.out j hlt2)
            clear hb0 hbad hj hgj
            generalize (rd_T46 p (j : Int)) = y at *
            cases g1 : text40 y.f0 with
            | false =>
              have HTX := Aside0.mk (fun W => implText_of y.f0 g1 W)
              have HV := Aside0.mk (show bad = true by rw [HBAD.out]; simp only [g1, Bool.not_true, Bool.not_false, Bool.false_or, Bool.true_or, Bool.or_true, Bool.or_false, Bool.true_and, Bool.false_and, Bool.and_true])
              clear HBAD
              go_wp2_with (go_at_call 22; refine (HTX.out _).mono ?_; rintro e w' ⟨rfl, ⟨nd, rfl⟩⟩)
              go_meet
              case rel => exact ⟨⟨by repeat (first | exact HB1.out | apply pw_below_drewN | apply below_drew1 | apply below_drew)⟩, by rw [← HB0.out, HV.out]⟩
            | true =>
              have HTX := Aside0.mk (fun W => implText_of y.f0 g1 W)
              by_cases g2 : 4000 < y.f1.size
              · have g2b : decide (4000 < y.f1.size) = true := decide_eq_true g2
                have g2z : decide (4000 < (y.f1.size : Int)) = true := decide_eq_true (by omega)
                clear g2
                have HV := Aside0.mk (show bad = true by rw [HBAD.out]; simp only [g1, g2b, Bool.not_true, Bool.not_false, Bool.false_or, Bool.true_or, Bool.or_true, Bool.or_false, Bool.true_and, Bool.false_and, Bool.and_true])
                clear HBAD
                go_wp2_with (go_at_call 22; refine (HTX.out _).mono ?_; rintro e w' ⟨rfl, ⟨nd, rfl⟩⟩)
                go_meet
                case rel => exact ⟨⟨by repeat (first | exact HB1.out | apply pw_below_drewN | apply below_drew1 | apply below_drew)⟩, by rw [← HB0.out, HV.out]⟩
              · have g2b : decide (4000 < y.f1.size) = false := decide_eq_false g2
                have g2z : decide (4000 < (y.f1.size : Int)) = false := decide_eq_false (by omega)
                clear g2
                by_cases g3 : y.f2 < 1
                · have g3b : decide (y.f2 < 1) = true := decide_eq_true g3
                  clear g3
                  have HV := Aside0.mk (show bad = true by rw [HBAD.out]; simp only [g1, g2b, g3b, Bool.not_true, Bool.not_false, Bool.false_or, Bool.true_or, Bool.or_true, Bool.or_false, Bool.true_and, Bool.false_and, Bool.and_true])
                  clear HBAD
                  go_wp2_with (go_at_call 22; refine (HTX.out _).mono ?_; rintro e w' ⟨rfl, ⟨nd, rfl⟩⟩)
                  go_meet
                  case rel => exact ⟨⟨by repeat (first | exact HB1.out | apply pw_below_drewN | apply below_drew1 | apply below_drew)⟩, by rw [← HB0.out, HV.out]⟩
                · have g3b : decide (y.f2 < 1) = false := decide_eq_false g3
                  clear g3
                  by_cases g4 : 5 < y.f2
                  · have g4b : decide (5 < y.f2) = true := decide_eq_true g4
                    clear g4
                    have HV := Aside0.mk (show bad = true by rw [HBAD.out]; simp only [g1, g2b, g3b, g4b, Bool.not_true, Bool.not_false, Bool.false_or, Bool.true_or, Bool.or_true, Bool.or_false, Bool.true_and, Bool.false_and, Bool.and_true])
                    clear HBAD
                    go_wp2_with (go_at_call 22; refine (HTX.out _).mono ?_; rintro e w' ⟨rfl, ⟨nd, rfl⟩⟩)
                    go_meet
                    case rel => exact ⟨⟨by repeat (first | exact HB1.out | apply pw_below_drewN | apply below_drew1 | apply below_drew)⟩, by rw [← HB0.out, HV.out]⟩
                  · have g4b : decide (5 < y.f2) = false := decide_eq_false g4
                    clear g4
                    have HCO := Aside0.mk (implCols_of HSY.out HCK.out HCKc.out (rfl : coloursB y.f3 = _))
                    have HV := Aside0.mk (show bad = !coloursB y.f3 by rw [HBAD.out]; simp only [g1, g2b, g3b, g4b, Bool.not_true, Bool.not_false, Bool.false_or, Bool.true_or, Bool.or_true, Bool.or_false, Bool.true_and, Bool.false_and, Bool.and_true])
                    clear HBAD
                    go_wp2_with (first | (go_at_call 22; refine (HTX.out _).mono ?_; rintro e w' ⟨rfl, ⟨nd, rfl⟩⟩) | (go_at_call 23; refine (HCO.out _ (by repeat (first | exact HB1.out | apply pw_below_drewN | apply below_drew1 | apply below_drew))).mono ?_; rintro e w' ⟨rfl, hb⟩))
                    go_meet
                    case rel => exact ⟨⟨by refine below_step ?_ hb; repeat (first | exact HB1.out | apply pw_below_drewN | apply below_drew1 | apply below_drew)⟩, by rw [← HB0.out, HV.out]⟩
          case rest =>
            obtain ⟨HB2, rfl⟩ := hcut
            clear HX HB1 hX0 hX1 hX2 hX3
            cases hbad : panelBad (rd_T46 p (j : Int)) with
            | true =>
              have HV := Aside0.mk (show r = false by rw [HI2.out, panel_bad hbad]; rfl)
              clear hbad
              go_wp2
              go_ret
              exact ⟨by rw [HV.out]; rfl, HB2.out⟩
            | false =>
              have HV := Aside0.mk (show r = (List.range' (j + 1) (p.length - (j + 1))).all (panelOk p) by rw [HI2.out, panel_ok hbad]; rfl)
              clear hbad
              go_wp2
              go_roundg (p.length - (j + 1))
              case measure => omega
              case rel => exact ⟨j + 1, by omega, by omega, by go_num, HB2, HV⟩
        · obtain rfl : j = p.length := by omega
          have HV := Aside0.mk (show r = true by rw [HI.out, Nat.sub_self]; rfl)
          clear HI
          go_wp2
          go_ret
          exact ⟨by rw [HV.out]; rfl, HB.out⟩
end Go.Proofs.Ytcemokegafijnaa.PFnExactGoodBoard
