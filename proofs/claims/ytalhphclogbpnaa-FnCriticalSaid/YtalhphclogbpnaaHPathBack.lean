/- The walk of back, CriticalPath's function that calls itself. -/
import Derived.Test.YtalhphclogbpnaaHPathPut
import Derived.Deep.QuietTactic
import Derived.BigQuiet
namespace Go.Proofs.Ytalhphclogbpnaa.PFnCritical
open Go.RowKit Go.Shelf Go.Proofs.YtalhphclogbpnaaW.PrintWords Go.Proofs.YtalhphclogbpnaaW.PrintLast Go.Proofs.YtalhphclogbpnaaW.PrintMore
set_option linter.unusedVariables false
set_option linter.unusedSimpArgs false
def idxQ : Option Nat → Int
  | none => -1
  | some j => j
theorem take_step {α β : Type} (f : α → β → α) (a : α) (l : List β) (i : Nat) (h : i < l.length) : (l.take (i + 1)).foldl f a = f ((l.take i).foldl f a) l[i] := by
  rw [List.take_succ_eq_append_getElem h, List.foldl_append]; rfl
theorem rdC_get (l : List SC) (i : Nat) (h : i < l.length) : rdC l (i : Int) = l[i] := by
  show l.getD _ _ = _
  rw [Int.toNat_natCast, List.getD_eq_getElem?_getD, List.getElem?_eq_getElem h]; rfl
set_option maxHeartbeats 8000000 in
set_option maxRecDepth 100000 in
theorem back_of {w0 : World} {gT gP gB gO : Nat} {n : Int} {A : Option Addr} {c : Nat} {l : List SC} (hC : Kd.C k34 w0 A l.length l) (hmax : l.length ≤ 1048576) :
    ∀ (k : Nat) (x : SC) (m : Int) (out r : List SP) (w : World), pathF l k x m out = some r → EnvM w0 gT gP gB gO n A c l w out →
    Calls Try.prog 15 #[.agg #[.int .i64 x.f0, .int .i64 x.f1, .string x.f2, .string x.f3, .int .i64 x.f4, .int .i64 x.f5, .bool x.f6], .int .i64 m, .pointer (some ⟨gT, 0, none⟩), .pointer (some ⟨gP, 0, none⟩), .pointer (some ⟨gB, 0, none⟩)] w fun e w' => e = .returned (.tuple #[]) ∧ EnvM w0 gT gP gB gO n A c l w' r ∧ OnlyM gO w w' := by
  intro k
  induction k using Nat.strongRecOn with
  | _ k ih =>
  intro x m out r w hp he
  have HIH := Aside0.mk ih
  have HP := Aside0.mk hp
  have HE := Aside0.mk he
  have HC := Aside0.mk hC
  have HM := Aside0.mk hmax
  clear ih hp he hC hmax
  go_enter Try.func15, Try.ntmps15
  go_upto_region 1 with (fail)
  have HX := Aside0.mk (blk_new w (.cells #[.int .i64 x.f0, .int .i64 x.f1, .string x.f2, .string x.f3, .int .i64 x.f4, .int .i64 x.f5, .bool x.f6] 34))
  have HB1 := Aside0.mk (below_alloc (Below.refl w.heap.size w) (.cells #[.int .i64 x.f0, .int .i64 x.f1, .string x.f2, .string x.f3, .int .i64 x.f4, .int .i64 x.f5, .bool x.f6] 34))
  have HE1 := Aside0.mk (HE.out.below HB1.out)
  have HO1 := Aside0.mk (OnlyM.of_below (gO := gO) HB1.out)
  clear HE HB1
  generalize w.alloc (.cells #[.int .i64 x.f0, .int .i64 x.f1, .string x.f2, .string x.f3, .int .i64 x.f4, .int .i64 x.f5, .bool x.f6] 34) = W1 at HX HE1 HO1 ⊢
  generalize w.heap.size = gX at HX ⊢
  have ht0 : W1.cell? ⟨gT, 0, none⟩ = some (.int .i64 n) := (blk_cell HE1.out.t 0).trans rfl
  have ht1 : W1.cell? ⟨gT, 1, none⟩ = some (.slice A l.length c) := (blk_cell HE1.out.t 1).trans rfl
  have hx0 : W1.cell? ⟨gX, 0, none⟩ = some (.int .i64 x.f0) := (blk_cell HX.out 0).trans rfl
  have HK := Aside0.mk (kids_of (c := c) (Kd.C_below HC.out HE1.out.low) HM.out n x.f0)
  go_wp2_with (go_at_call 16; refine HK.out.mono ?_; rintro e W2 ⟨v7, rfl, hr7, hb7⟩; obtain ⟨A7, c7, rfl⟩ := Kd.R_slice hr7; have HR7 := Aside0.mk (Kd.R_lower hr7 (Nat.zero_le _)); have HE2 := Aside0.mk (HE1.out.below hb7); have HX2 := Aside0.mk (blk_below HX.out hb7); have HO2 := Aside0.mk (HO1.out.trans (OnlyM.of_below hb7)); clear hr7 hb7 HE1 HO1 HX HK ht0 ht1 hx0)
  have HKL := Aside0.mk (show (kidsM l x.f0).length ≤ 1048576 from Nat.le_trans (List.length_filter_le _ _) HM.out)
  generalize hkk : kidsM l x.f0 = kids at HR7 HKL ⊢
  have HKE := Aside0.mk hkk
  clear hkk HM
  go_wp2
  go_loopg [1] k (fun gg v1 wr => ∃ (m1 : Int) (out1 : List SP), v1 = .int .i64 m1 ∧ Aside0 (pathF l gg x m1 out1 = some r) ∧ Aside0 (gg ≤ k) ∧ Aside0 (EnvM w0 gT gP gB gO n A c l wr out1) ∧ Aside0 (OnlyM gO w wr) ∧ Aside0 (wr.heap[gX]? = some (.cells #[.int .i64 x.f0, .int .i64 x.f1, .string x.f2, .string x.f3, .int .i64 x.f4, .int .i64 x.f5, .bool x.f6] 34 (0, 0))) ∧ Aside0 (Kd.R k34 34 wr 0 (fun _ => True) (.slice A7 kids.length c7) kids))
  case atStart => exact ⟨m, out, rfl, HP, ⟨Nat.le_refl _⟩, HE2, HO2, HX2, HR7⟩
  case round =>
    clear HP HE2 HO2 HX2 HR7
    obtain ⟨m1, out1, rfl, HP1, HGK, HE1, HO1, HX1, HR1⟩ := hrel
    obtain ⟨wo, rfl⟩ : ∃ wo : World, wo = wr := ⟨_, rfl⟩
    cases gk with
    | zero => exact absurd HP1.out (by simp [pathF])
    | succ g =>
    have hp := HP1.out
    rw [pathF, HKE.out] at hp
    have hlo : out1.length < 5864062014805 := by
      rcases Nat.lt_or_ge out1.length 5864062014805 with h | h
      · exact h
      · rw [if_neg (by omega)] at hp
        exact absurd hp (by simp)
    rw [if_pos hlo] at hp
    have HPM := Aside0.mk hp
    have HLO := Aside0.mk hlo
    clear hp hlo HP1
    go_wp2
    go_loopg [8, 19] kids.length (fun gg v8 v19 wq => ∃ (i : Nat) (q : Option Nat), i ≤ kids.length ∧ kids.length - i ≤ gg ∧ v19 = .int .i64 i ∧ v8 = .int .i64 (idxQ q) ∧ Aside0 (∀ j, q = some j → j < i) ∧ Aside0 ((kids.take i).foldl (stepV m1) none = q.map (fun j : Nat => rd_T34 kids (j : Int))) ∧ Aside0 (Below wo.heap.size wo wq))
    case atStart => exact ⟨0, none, Nat.zero_le _, by omega, rfl, rfl, ⟨fun j hj => by cases hj⟩, ⟨rfl⟩, ⟨by repeat (first | exact Below.refl _ _ | apply below_alloc | apply pw_below_drewN | apply below_drew1)⟩⟩
    case round =>
      obtain ⟨i, q, hi, hg, rfl, rfl, HQ, HF, HB⟩ := hrel
      have HRW := Aside0.mk (Kd.R_below HR1.out HB.out)
      by_cases hlt : i < kids.length
      · have hltz : (i : Int) < (kids.length : Int) := by omega
        have hst := take_step (stepV m1) none kids i hlt
        rw [HF.out, ← rdC_get kids i hlt] at hst
        have HST := Aside0.mk hst
        clear hst
        have HCK := Aside0.mk (Kd.R_reads' HRW.out).2.2
        obtain ⟨ad, hA, hx0, hx1, hx2, hx3, hx4, hx5, hx6⟩ := at_T34 HCK.out (i : Int) (by omega) (by omega)
        rw [Int.toNat_natCast] at hx0 hx1 hx2 hx3 hx4 hx5 hx6
        subst hA
        go_upto_region 6 with (fail)
        have HB1 := Aside0.mk (below_alloc HB.out (.cells #[.int .i64 (rd_T34 kids (i : Int)).f0, .int .i64 (rd_T34 kids (i : Int)).f1, .string (rd_T34 kids (i : Int)).f2, .string (rd_T34 kids (i : Int)).f3, .int .i64 (rd_T34 kids (i : Int)).f4, .int .i64 (rd_T34 kids (i : Int)).f5, .bool (rd_T34 kids (i : Int)).f6] 34))
        have HX := Aside0.mk (blk_new wr (.cells #[.int .i64 (rd_T34 kids (i : Int)).f0, .int .i64 (rd_T34 kids (i : Int)).f1, .string (rd_T34 kids (i : Int)).f2, .string (rd_T34 kids (i : Int)).f3, .int .i64 (rd_T34 kids (i : Int)).f4, .int .i64 (rd_T34 kids (i : Int)).f5, .bool (rd_T34 kids (i : Int)).f6] 34))
        have HR1w := Aside0.mk (Kd.R_alloc HRW.out (.cells #[.int .i64 (rd_T34 kids (i : Int)).f0, .int .i64 (rd_T34 kids (i : Int)).f1, .string (rd_T34 kids (i : Int)).f2, .string (rd_T34 kids (i : Int)).f3, .int .i64 (rd_T34 kids (i : Int)).f4, .int .i64 (rd_T34 kids (i : Int)).f5, .bool (rd_T34 kids (i : Int)).f6] 34))
        clear hx0 hx1 hx2 hx3 hx4 hx5 hx6 HCK HRW HB
        change Aside0 (List.foldl (stepV m1) none (List.take (i + 1) kids) = stepV m1 (q.map fun j : Nat => rd_T34 kids (j : Int)) (rd_T34 kids (i : Int))) at HST
        generalize hy : rd_T34 kids (i : Int) = y at HX HB1 HR1w HST ⊢
        have HY := Aside0.mk hy
        clear hy
        generalize wr.alloc (.cells #[.int .i64 y.f0, .int .i64 y.f1, .string y.f2, .string y.f3, .int .i64 y.f4, .int .i64 y.f5, .bool y.f6] 34) = W3 at HX HB1 HR1w ⊢
        generalize wr.heap.size = gY at HX ⊢
        have hy4 : W3.cell? ⟨gY, 4, none⟩ = some (.int .i64 y.f4) := (blk_cell HX.out 4).trans rfl
        have hy5 : W3.cell? ⟨gY, 5, none⟩ = some (.int .i64 y.f5) := (blk_cell HX.out 5).trans rfl
        by_cases h1 : y.f4 < y.f5
        · have h1b : decide (y.f4 < y.f5) = true := decide_eq_true h1
          by_cases h2 : y.f4 < m1
          · have h2b : decide (y.f4 < m1) = true := decide_eq_true h2
            have HCAN := Aside0.mk (show canM m1 y = true by unfold canM; rw [h1b, h2b]; rfl)
            clear h1 h2
            cases q with
            | none =>
              rw [show idxQ none = (-1 : Int) from rfl]
              have h3b : decide ((-1 : Int) < 0) = true := rfl
              have HV := Aside0.mk (show List.foldl (stepV m1) none (List.take (i + 1) kids) = ((some i) : Option Nat).map (fun j : Nat => rd_T34 kids (j : Int)) from HST.out.trans (by unfold stepV; rw [HCAN.out]; show some y = some (rd_T34 kids (i : Int)); rw [HY.out]))
              clear HST
              go_quiet (fail)
              have hwr : wrap64 ((i : Int) + 1) = (i : Int) + 1 := by have := HKL.out; unfold wrap64; omega
              go_wp2
              go_roundg (kids.length - (i + 1))
              case measure => omega
              case rel => exact ⟨i + 1, (some i), by omega, by omega, by go_num, rfl, ⟨fun j hj => by injection hj with hj; omega⟩, HV, ⟨by repeat (first | exact HB1.out | apply pw_below_drewN | apply below_drew1 | apply below_drew)⟩⟩
            | some j =>
              rw [show idxQ (some j) = (j : Int) from rfl]
              have hji := HQ.out j rfl
              have hjz : (j : Int) < (kids.length : Int) := by omega
              have h3b : decide ((j : Int) < 0) = false := decide_eq_false (by omega)
              have HCJ := Aside0.mk (Kd.R_reads' HR1w.out).2.2
              obtain ⟨ad', hA, _, _, _, _, _, hz5, _⟩ := at_T34 HCJ.out (j : Int) (by omega) hjz
              rw [Int.toNat_natCast] at hz5
              injection hA with hA
              subst hA
              have HNV := Aside0.mk (show nextV m1 (some (rd_T34 kids (j : Int))) y = decide ((if m1 < (rd_T34 kids (j : Int)).f5 then m1 else (rd_T34 kids (j : Int)).f5) ≤ (if m1 < y.f5 then m1 else y.f5)) from rfl)
              change W3.cell? _ = some (.int .i64 (rd_T34 kids (j : Int)).f5) at hz5
              generalize hzz : (rd_T34 kids (j : Int)).f5 = z at hz5 HNV
              clear hzz
              generalize hpz : (if m1 < z then m1 else z) = pz at HNV
              generalize hpy : (if m1 < y.f5 then m1 else y.f5) = py at HNV
              by_cases h4 : pz ≤ py
              · have h4b := decide_eq_true h4
                rw [h4b] at HNV
                clear h4
                have HV := Aside0.mk (show List.foldl (stepV m1) none (List.take (i + 1) kids) = ((some i) : Option Nat).map (fun j : Nat => rd_T34 kids (j : Int)) from HST.out.trans (by unfold stepV; rw [show (some j).map (fun j : Nat => rd_T34 kids (j : Int)) = some (rd_T34 kids (j : Int)) from rfl, HCAN.out, HNV.out]; show some y = some (rd_T34 kids (i : Int)); rw [HY.out]))
                clear HST
                go_quiet (fail)
                have hwr : wrap64 ((i : Int) + 1) = (i : Int) + 1 := by have := HKL.out; unfold wrap64; omega
                go_wp2
                go_roundg (kids.length - (i + 1))
                case measure => omega
                case rel => exact ⟨i + 1, (some i), by omega, by omega, by go_num, rfl, ⟨fun j hj => by injection hj with hj; omega⟩, HV, ⟨by repeat (first | exact HB1.out | apply pw_below_drewN | apply below_drew1 | apply below_drew)⟩⟩
              · have h4b := decide_eq_false h4
                rw [h4b] at HNV
                clear h4
                have HV := Aside0.mk (show List.foldl (stepV m1) none (List.take (i + 1) kids) = ((some j) : Option Nat).map (fun j : Nat => rd_T34 kids (j : Int)) from HST.out.trans (by unfold stepV; rw [show (some j).map (fun j : Nat => rd_T34 kids (j : Int)) = some (rd_T34 kids (j : Int)) from rfl, HCAN.out, HNV.out]; rfl))
                clear HST
                go_quiet (fail)
                have hwr : wrap64 ((i : Int) + 1) = (i : Int) + 1 := by have := HKL.out; unfold wrap64; omega
                go_wp2
                go_roundg (kids.length - (i + 1))
                case measure => omega
                case rel => exact ⟨i + 1, (some j), by omega, by omega, by go_num, rfl, ⟨fun j hj => Nat.lt_succ_of_lt (HQ.out j hj)⟩, HV, ⟨by repeat (first | exact HB1.out | apply pw_below_drewN | apply below_drew1 | apply below_drew)⟩⟩
          · have h2b : decide (y.f4 < m1) = false := decide_eq_false h2
            have HCAN := Aside0.mk (show canM m1 y = false by unfold canM; rw [h1b, h2b]; rfl)
            clear h1 h2
            have HV := Aside0.mk (show List.foldl (stepV m1) none (List.take (i + 1) kids) = (q : Option Nat).map (fun j : Nat => rd_T34 kids (j : Int)) from HST.out.trans (by unfold stepV; rw [HCAN.out]; rfl))
            clear HST
            go_quiet (fail)
            have hwr : wrap64 ((i : Int) + 1) = (i : Int) + 1 := by have := HKL.out; unfold wrap64; omega
            go_wp2
            go_roundg (kids.length - (i + 1))
            case measure => omega
            case rel => exact ⟨i + 1, q, by omega, by omega, by go_num, rfl, ⟨fun j hj => Nat.lt_succ_of_lt (HQ.out j hj)⟩, HV, ⟨by repeat (first | exact HB1.out | apply pw_below_drewN | apply below_drew1 | apply below_drew)⟩⟩
        · have h1b : decide (y.f4 < y.f5) = false := decide_eq_false h1
          have HCAN := Aside0.mk (show canM m1 y = false by unfold canM; rw [h1b]; rfl)
          clear h1
          have HV := Aside0.mk (show List.foldl (stepV m1) none (List.take (i + 1) kids) = (q : Option Nat).map (fun j : Nat => rd_T34 kids (j : Int)) from HST.out.trans (by unfold stepV; rw [HCAN.out]; rfl))
          clear HST
          go_quiet (fail)
          have hwr : wrap64 ((i : Int) + 1) = (i : Int) + 1 := by have := HKL.out; unfold wrap64; omega
          go_wp2
          go_roundg (kids.length - (i + 1))
          case measure => omega
          case rel => exact ⟨i + 1, q, by omega, by omega, by go_num, rfl, ⟨fun j hj => Nat.lt_succ_of_lt (HQ.out j hj)⟩, HV, ⟨by repeat (first | exact HB1.out | apply pw_below_drewN | apply below_drew1 | apply below_drew)⟩⟩
      · obtain rfl : i = kids.length := by omega
        have hbv := HF.out
        rw [List.take_length] at hbv
        change bestV m1 kids = _ at hbv
        have hp := HPM.out
        rw [hbv] at hp
        have HE3 := Aside0.mk (HE1.out.below HB.out)
        have HO3 := Aside0.mk (HO1.out.trans (OnlyM.of_below HB.out))
        have HX3 := Aside0.mk (blk_below HX1.out HB.out)
        clear HPM hbv HF hlt HE1 HO1 HX1 HR1 HB
        have hpc : wr.cell? ⟨gP, 0, none⟩ = some (.func (.func 14) #[] #[.pointer (some ⟨gO, 0, none⟩)]) := (blk_cell HE3.out.p 0).trans rfl
        have hx0 : wr.cell? ⟨gX, 0, none⟩ = some (.int .i64 x.f0) := (blk_cell HX3.out 0).trans rfl
        have hx1 : wr.cell? ⟨gX, 1, none⟩ = some (.int .i64 x.f1) := (blk_cell HX3.out 1).trans rfl
        have hx2 : wr.cell? ⟨gX, 2, none⟩ = some (.string x.f2) := (blk_cell HX3.out 2).trans rfl
        have hx3 : wr.cell? ⟨gX, 3, none⟩ = some (.string x.f3) := (blk_cell HX3.out 3).trans rfl
        have hx4 : wr.cell? ⟨gX, 4, none⟩ = some (.int .i64 x.f4) := (blk_cell HX3.out 4).trans rfl
        have hx5 : wr.cell? ⟨gX, 5, none⟩ = some (.int .i64 x.f5) := (blk_cell HX3.out 5).trans rfl
        have hx6 : wr.cell? ⟨gX, 6, none⟩ = some (.bool x.f6) := (blk_cell HX3.out 6).trans rfl
        cases q with
        | none =>
          rw [show idxQ none = (-1 : Int) from rfl]
          change some (putM x.f0 x.f4 m1 out1) = some r at hp
          obtain rfl := Option.some.inj hp
          clear hp
          have h3b : decide ((-1 : Int) < 0) = true := rfl
          have HPUT := Aside0.mk (put_of HE3.out HLO.out x x.f4 m1)
          go_wp2_with (go_at_call 14; refine HPUT.out.mono ?_; rintro e w4 ⟨rfl, he, ho⟩; have HE4 := Aside0.mk he; have HO4 := Aside0.mk (HO3.out.trans ho); clear he ho HPUT)
          first | go_end0 | ((try simp only [Exit.inBlock, Exit.then]); refine bodyPost_ret (results_none rfl _ _ _) rfl ?_)
          exact ⟨rfl, HE4.out, HO4.out⟩
        | some j =>
          rw [show idxQ (some j) = (j : Int) from rfl]
          have hji := HQ.out j rfl
          have hjz : (j : Int) < (kids.length : Int) := by omega
          have h3b : decide ((j : Int) < 0) = false := decide_eq_false (by omega)
          have HCJ := Aside0.mk (Kd.R_reads' HRW.out).2.2
          obtain ⟨ad, hA, hz0, hz1, hz2, hz3, hz4, hz5, hz6⟩ := at_T34 HCJ.out (j : Int) (by omega) hjz
          rw [Int.toNat_natCast] at hz0 hz1 hz2 hz3 hz4 hz5 hz6
          subst hA
          change (pathF l g (rd_T34 kids (j : Int)) (endM (rd_T34 kids (j : Int)) m1) (putM x.f0 (endM (rd_T34 kids (j : Int)) m1) m1 out1)).bind (fun o => pathF l g x (rd_T34 kids (j : Int)).f4 o) = some r at hp
          generalize rd_T34 kids (j : Int) = y at hp hz0 hz1 hz2 hz3 hz4 hz5 hz6
          obtain ⟨o, hp1, hp2⟩ := Option.bind_eq_some_iff.1 hp
          have HP1 := Aside0.mk hp1
          have HP2 := Aside0.mk hp2
          clear hp hp1 hp2 HCJ
          go_upto_region 12 with (fail)
          have HB1 := Aside0.mk (below_alloc (Below.refl wr.heap.size wr) (.cells #[.int .i64 y.f0, .int .i64 y.f1, .string y.f2, .string y.f3, .int .i64 y.f4, .int .i64 y.f5, .bool y.f6] 34))
          have HY := Aside0.mk (blk_new wr (.cells #[.int .i64 y.f0, .int .i64 y.f1, .string y.f2, .string y.f3, .int .i64 y.f4, .int .i64 y.f5, .bool y.f6] 34))
          have HE5 := Aside0.mk (HE3.out.below HB1.out)
          have HO5 := Aside0.mk (HO3.out.trans (OnlyM.of_below HB1.out))
          have HX5 := Aside0.mk (blk_below HX3.out HB1.out)
          have HR5 := Aside0.mk (Kd.R_below HRW.out HB1.out)
          clear hz0 hz1 hz2 hz3 hz4 hz5 hz6 hx0 hx1 hx2 hx3 hx4 hx5 hx6 hpc HE3 HO3 HX3 HRW HB1
          generalize wr.alloc (.cells #[.int .i64 y.f0, .int .i64 y.f1, .string y.f2, .string y.f3, .int .i64 y.f4, .int .i64 y.f5, .bool y.f6] 34) = W5 at HY HE5 HO5 HX5 HR5 ⊢
          generalize wr.heap.size = gY at HY ⊢
          have hx0 : W5.cell? ⟨gX, 0, none⟩ = some (.int .i64 x.f0) := (blk_cell HX5.out 0).trans rfl
          have hx1 : W5.cell? ⟨gX, 1, none⟩ = some (.int .i64 x.f1) := (blk_cell HX5.out 1).trans rfl
          have hx2 : W5.cell? ⟨gX, 2, none⟩ = some (.string x.f2) := (blk_cell HX5.out 2).trans rfl
          have hx3 : W5.cell? ⟨gX, 3, none⟩ = some (.string x.f3) := (blk_cell HX5.out 3).trans rfl
          have hx4 : W5.cell? ⟨gX, 4, none⟩ = some (.int .i64 x.f4) := (blk_cell HX5.out 4).trans rfl
          have hx5 : W5.cell? ⟨gX, 5, none⟩ = some (.int .i64 x.f5) := (blk_cell HX5.out 5).trans rfl
          have hx6 : W5.cell? ⟨gX, 6, none⟩ = some (.bool x.f6) := (blk_cell HX5.out 6).trans rfl
          have hy5 : W5.cell? ⟨gY, 5, none⟩ = some (.int .i64 y.f5) := (blk_cell HY.out 5).trans rfl
          have hpc : W5.cell? ⟨gP, 0, none⟩ = some (.func (.func 14) #[] #[.pointer (some ⟨gO, 0, none⟩)]) := (blk_cell HE5.out.p 0).trans rfl
          generalize hpe : endM y m1 = em at HP1
          unfold endM at hpe
          have HPUT := Aside0.mk (put_of HE5.out HLO.out x em m1)
          go_wp2_with (first
            | (go_at_call 14; refine HPUT.out.mono ?_; rintro e w6 ⟨rfl, he, ho⟩
               have HY6 := Aside0.mk (HE5.out.only HY.out (by decide) (by decide) ho); have HX6 := Aside0.mk (HE5.out.only HX5.out (by decide) (by decide) ho); have HR6 := Aside0.mk (OnlyM.row ho HR5.out rfl (by decide) HE5.out.o.choose_spec.1 (by decide)); have HE6 := Aside0.mk he; have HO6 := Aside0.mk (HO5.out.trans ho)
               have HBK := Aside0.mk (HIH.out g (by have := HGK.out; omega) y em (putM x.f0 em m1 out1) o w6 HP1.out he)
               have hbc : w6.cell? ⟨gB, 0, none⟩ = some (.func (.func 15) #[] #[.pointer (some ⟨gT, 0, none⟩), .pointer (some ⟨gP, 0, none⟩), .pointer (some ⟨gB, 0, none⟩)]) := (blk_cell HE6.out.b 0).trans rfl
               have hy0 : w6.cell? ⟨gY, 0, none⟩ = some (.int .i64 y.f0) := (blk_cell HY6.out 0).trans rfl; have hy1 : w6.cell? ⟨gY, 1, none⟩ = some (.int .i64 y.f1) := (blk_cell HY6.out 1).trans rfl; have hy2 : w6.cell? ⟨gY, 2, none⟩ = some (.string y.f2) := (blk_cell HY6.out 2).trans rfl; have hy3 : w6.cell? ⟨gY, 3, none⟩ = some (.string y.f3) := (blk_cell HY6.out 3).trans rfl; have hy4 : w6.cell? ⟨gY, 4, none⟩ = some (.int .i64 y.f4) := (blk_cell HY6.out 4).trans rfl; have hy5 : w6.cell? ⟨gY, 5, none⟩ = some (.int .i64 y.f5) := (blk_cell HY6.out 5).trans rfl; have hy6 : w6.cell? ⟨gY, 6, none⟩ = some (.bool y.f6) := (blk_cell HY6.out 6).trans rfl
               clear he ho HPUT HY HE5 HO5 HX5 HR5 hx0 hx1 hx2 hx3 hx4 hx5 hx6 hpc)
            | (go_at_call 15; refine HBK.out.mono ?_; rintro e w7 ⟨rfl, he, ho⟩
               have HY7 := Aside0.mk (HE6.out.only HY6.out (by decide) (by decide) ho); have HX7 := Aside0.mk (HE6.out.only HX6.out (by decide) (by decide) ho); have HR7 := Aside0.mk (OnlyM.row ho HR6.out rfl (by decide) HE6.out.o.choose_spec.1 (by decide)); have HE7 := Aside0.mk he; have HO7 := Aside0.mk (HO6.out.trans ho)
               have hy4' : w7.cell? ⟨gY, 4, none⟩ = some (.int .i64 y.f4) := (blk_cell HY7.out 4).trans rfl
               clear he ho HBK HY6 HE6 HO6 HX6 HR6 hbc hy0 hy1 hy2 hy3 hy4 hy5 hy6))
          go_roundg g
          case measure => omega
          case rel => exact ⟨y.f4, o, rfl, HP2, ⟨by have := HGK.out; omega⟩, HE7, HO7, HX7, HR7⟩
end Go.Proofs.Ytalhphclogbpnaa.PFnCritical
