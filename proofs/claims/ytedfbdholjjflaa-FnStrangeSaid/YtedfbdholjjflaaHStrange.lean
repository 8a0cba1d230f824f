/- The program's StrangeIn: what it computes, as the printed functions want their callees. -/
import Derived.Test.YtedfbdholjjflaaHStrangePlain
import Derived.Test.YtedfbdholjjflaaHLive
import Derived.Test.YtedfbdholjjflaaPFnStrangex2
namespace Go.Proofs.Ytedfbdholjjflaa.PFnStrange
open Go.RowKit Go.Shelf Go.Proofs.YtedfbdholjjflaaW.PrintWords Go.Proofs.YtedfbdholjjflaaW.PrintLast Go.Proofs.YtedfbdholjjflaaW.PrintMore Go.Proofs.Ytedfbdholjjflaa.Evs Go.Proofs.Ytedfbdholjjflaa.AFnStrange
set_option linter.unusedVariables false
set_option linter.unusedSimpArgs false
theorem four_blocks (w : World) (o0 o1 o2 o3 : Obj) : ((((w.alloc o0).alloc o1).alloc o2).alloc o3).heap[w.heap.size]? = some o0 ∧ ((((w.alloc o0).alloc o1).alloc o2).alloc o3).heap[w.heap.size + 1]? = some o1 ∧ ((((w.alloc o0).alloc o1).alloc o2).alloc o3).heap[w.heap.size + 1 + 1]? = some o2 ∧ ((((w.alloc o0).alloc o1).alloc o2).alloc o3).heap[w.heap.size + 1 + 1 + 1]? = some o3 ∧ Below w.heap.size w ((((w.alloc o0).alloc o1).alloc o2).alloc o3) := by
  have sz : ∀ (w : World) (o : Obj), (w.alloc o).heap.size = w.heap.size + 1 := fun w o => by first | rfl | (rw [World.alloc_eq]; exact Array.size_push _) | simp
  obtain ⟨a0, a1, a2, hb⟩ := three_blocks w o0 o1 o2
  have s3 : (((w.alloc o0).alloc o1).alloc o2).heap.size = w.heap.size + 1 + 1 + 1 := (sz ((w.alloc o0).alloc o1) o2).trans (by rw [sz (w.alloc o0) o1, sz w o0])
  have b3 := blk_new (((w.alloc o0).alloc o1).alloc o2) o3
  rw [s3] at b3
  exact ⟨(Below.heap_alloc _ o3 _ (blk_lt a0)).trans a0, (Below.heap_alloc _ o3 _ (blk_lt a1)).trans a1, (Below.heap_alloc _ o3 _ (blk_lt a2)).trans a2, b3, below_alloc hb _⟩
set_option maxHeartbeats 8000000 in
set_option maxRecDepth 100000 in
theorem odd_of {L : List SM} {s b wd : Int} (hl : L.length ≤ 1048576) (hs : sortedM L = true) (ht : ∀ x ∈ L, 0 ≤ x.f0 ∧ x.f0 ≤ 1000000000000) (hf : fineB s b wd = true) {A : Option Addr} {c g0 g1 g2 g3 : Nat} {w : World} (h0 : w.cell? ⟨g0, 0, none⟩ = some (.slice A L.length c)) (h1 : w.cell? ⟨g1, 0, none⟩ = some (.int .i64 s)) (h2 : w.cell? ⟨g2, 0, none⟩ = some (.int .i64 b)) (h3 : w.cell? ⟨g3, 0, none⟩ = some (.int .i64 wd)) (hC : Kd.C k29 w A L.length L) (hc : L.length ≤ c) :
    TellsM 16 #[.pointer (some ⟨g0, 0, none⟩), .pointer (some ⟨g1, 0, none⟩), .pointer (some ⟨g2, 0, none⟩), .pointer (some ⟨g3, 0, none⟩)] (oddB L s b wd) L w := by
  intro x hx W hW
  obtain ⟨f1, f2, f3, f4, f5, f6⟩ := fine_all hf
  obtain ⟨k, hk⟩ := EvP.rounds (implBand_ev L hl hs x.f0 s b wd (ht x hx).1 (ht x hx).2 f1 f2 (by omega) f4)
  have hy : oddB L s b wd x = outB (bandB L x.f0 s b wd) x.f1 := rfl
  rw [hy]
  generalize bandB L x.f0 s b wd = r at hk ⊢
  obtain ⟨r1, r2, r3⟩ := r
  have HBAND := Aside0.mk (fun (W' : World) (hW' : Below W.heap.size W W') => impl_band.calls k A c L x.f0 s b wd r1 r2 r3 W' (Kd.C_below (Kd.C_below hC hW) hW') hc hk)
  replace h0 := pw_cell_below hW h0
  replace h1 := pw_cell_below hW h1
  replace h2 := pw_cell_below hW h2
  replace h3 := pw_cell_below hW h3
  clear hk hy f1 f2 f3 f4 f5 f6 hW hC hc hx ht hf hs hl
  show Calls Try.prog 16 #[.agg #[.int .i64 x.f0, .int .i64 x.f1], .pointer (some ⟨g0, 0, none⟩), .pointer (some ⟨g1, 0, none⟩), .pointer (some ⟨g2, 0, none⟩), .pointer (some ⟨g3, 0, none⟩)] W _
  go_enter Try.func16, Try.ntmps16
  go_upto_region 1 with (fail)
  have HX := Aside0.mk (blk_new W (.cells #[.int .i64 x.f0, .int .i64 x.f1] 29))
  have HB1 := Aside0.mk (below_alloc (Below.refl W.heap.size W) (.cells #[.int .i64 x.f0, .int .i64 x.f1] 29))
  replace h0 := pw_cell_below HB1.out h0
  replace h1 := pw_cell_below HB1.out h1
  replace h2 := pw_cell_below HB1.out h2
  replace h3 := pw_cell_below HB1.out h3
  generalize W.alloc (.cells #[.int .i64 x.f0, .int .i64 x.f1] 29) = W1 at HX HB1 h0 h1 h2 h3 ⊢
  have hX0 : W1.cell? ⟨W.heap.size, 0, none⟩ = some (.int .i64 x.f0) := (blk_cell HX.out 0).trans rfl
  have HV := Aside0.mk (show outB (r1, r2, r3) x.f1 = (r3 && (decide (x.f1 < r1) || decide (r2 < x.f1))) from rfl)
  cases r3 with
  | false =>
    go_wp2_with (go_at_call 17; refine (HBAND.out _ (by repeat (first | exact HB1.out | apply pw_below_drewN | apply below_drew1 | apply below_drew))).mono ?_; rintro e w3 ⟨rfl, hb⟩)
    go_ret
    exact ⟨by rw [HV.out]; rfl, by repeat (first | exact below_step HB1.out hb | apply pw_below_drewN | apply below_drew1 | apply below_drew)⟩
  | true =>
    by_cases hlt : x.f1 < r1
    · have hltb : decide (x.f1 < r1) = true := decide_eq_true hlt
      replace HV := Aside0.mk (HV.out.trans (by rw [hltb]; rfl : _ = true))
      clear hlt
      go_wp2_with (go_at_call 17; refine (HBAND.out _ (by repeat (first | exact HB1.out | apply pw_below_drewN | apply below_drew1 | apply below_drew))).mono ?_; rintro e w3 ⟨rfl, hb⟩; have hX1 : w3.cell? ⟨W.heap.size, 1, none⟩ = some (.int .i64 x.f1) := (blk_cell (blk_below HX.out hb) 1).trans rfl)
      go_ret
      exact ⟨by rw [HV.out]; rfl, by repeat (first | exact below_step HB1.out hb | apply pw_below_drewN | apply below_drew1 | apply below_drew)⟩
    · have hltb : decide (x.f1 < r1) = false := decide_eq_false hlt
      replace HV := Aside0.mk (HV.out.trans (by rw [hltb]; rfl : _ = decide (r2 < x.f1)))
      clear hlt
      go_wp2_with (go_at_call 17; refine (HBAND.out _ (by repeat (first | exact HB1.out | apply pw_below_drewN | apply below_drew1 | apply below_drew))).mono ?_; rintro e w3 ⟨rfl, hb⟩; have hX1 : w3.cell? ⟨W.heap.size, 1, none⟩ = some (.int .i64 x.f1) := (blk_cell (blk_below HX.out hb) 1).trans rfl)
      go_ret
      exact ⟨by rw [HV.out]; rfl, by repeat (first | exact below_step HB1.out hb | apply pw_below_drewN | apply below_drew1 | apply below_drew)⟩
set_option maxHeartbeats 8000000 in
set_option maxRecDepth 100000 in
theorem impl_StrangeIn.calls (A0 : Option Addr) (c0 : Nat) (l0 : List SM) (a1 a2 a3 : Int) (r : List SM) (w : World) (hr0 : Kd.C k29 w A0 l0.length l0) (hc0 : l0.length ≤ c0) (h : impl_StrangeIn.f l0 a1 a2 a3 = some r) :
    Calls Try.prog 5 #[.slice A0 l0.length c0, .int .i64 a1, .int .i64 a2, .int .i64 a3] w fun e w' => ∃ v0_ : Value, e = .returned v0_ ∧ Kd.R k29 29 w' w.heap.size (fun _ => True) v0_ r ∧ Below w.heap.size w w' := by
  unfold impl_StrangeIn.f at h
  by_cases hl : l0.length ≤ 1048576
  · rw [if_pos hl] at h
    have hr := Option.some.inj h
    clear h
    obtain ⟨k, hk⟩ := EvP.rounds (implGood_ev l0 hl)
    have HC := Aside0.mk hr0
    have HG := Aside0.mk (fun (b : Bool) (hb : goodM l0 = b) (W : World) (hW : Below w.heap.size w W) => impl_GoodSamples.calls k A0 c0 l0 b W (Kd.C_below hr0 hW) hc0 (hb ▸ hk))
    have HF := Aside0.mk (fun (b : Bool) (hb : fineB a1 a2 a3 = b) (W : World) => impl_goodBand.calls a1 a2 a3 b W (hb ▸ goodBand_ev a1 a2 a3))
    have HR := Aside0.mk hr
    have HL := Aside0.mk hl
    clear hr0 hk hr hl
    go_enter Try.func5, Try.ntmps5
    go_upto_region 1 with (fail)
    obtain ⟨f0, f1, f2, f3, hB1⟩ := four_blocks w (.cells #[.slice A0 l0.length c0] 23) (.cells #[.int .i64 a1] 3) (.cells #[.int .i64 a2] 3) (.cells #[.int .i64 a3] 3)
    generalize (((w.alloc (.cells #[.slice A0 l0.length c0] 23)).alloc (.cells #[.int .i64 a1] 3)).alloc (.cells #[.int .i64 a2] 3)).alloc (.cells #[.int .i64 a3] 3) = W1 at *
    have HB1 := Aside0.mk hB1
    have K0 := Aside0.mk f0
    have K1 := Aside0.mk f1
    have K2 := Aside0.mk f2
    have K3 := Aside0.mk f3
    clear f0 f1 f2 f3 hB1
    have c0' : W1.cell? ⟨w.heap.size, 0, none⟩ = some (.slice A0 l0.length c0) := (blk_cell K0.out 0).trans rfl
    cases hg : goodM l0 with
    | false =>
      have HQ := Aside0.mk (HG.out false hg)
      have HV := Aside0.mk (show r = [] by rw [← HR.out]; unfold strangeM; rw [hg]; rfl)
      clear HG HF HR hg
      go_wp2_with (go_at_call 12; refine (HQ.out _ HB1.out).mono ?_; rintro e w2 ⟨rfl, hb⟩)
      go_ret
      exact ⟨_, rfl, by rw [HV.out]; exact Kd.R_nil _ _ _ _ _, below_step HB1.out hb⟩
    | true =>
      have HQ := Aside0.mk (HG.out true hg)
      cases hf : fineB a1 a2 a3 with
      | false =>
        have HQ2 := Aside0.mk (HF.out false hf)
        have HV := Aside0.mk (show r = [] by rw [← HR.out]; unfold strangeM; rw [hg, hf]; rfl)
        clear HG HF HR hg hf
        go_wp2_with (first | (go_at_call 12; refine (HQ.out _ HB1.out).mono ?_; rintro e w2 ⟨rfl, hb⟩; have HB2 := Aside0.mk (below_step HB1.out hb); have c1' : w2.cell? ⟨w.heap.size + 1, 0, none⟩ = some (.int .i64 a1) := (blk_cell (blk_below K1.out hb) 0).trans rfl; have c2' : w2.cell? ⟨w.heap.size + 1 + 1, 0, none⟩ = some (.int .i64 a2) := (blk_cell (blk_below K2.out hb) 0).trans rfl; have c3' : w2.cell? ⟨w.heap.size + 1 + 1 + 1, 0, none⟩ = some (.int .i64 a3) := (blk_cell (blk_below K3.out hb) 0).trans rfl; clear hb c0') | (go_at_call 13; refine (HQ2.out _).mono ?_; rintro e w' ⟨rfl, ⟨nd, rfl⟩⟩))
        go_ret
        exact ⟨_, rfl, by rw [HV.out]; exact Kd.R_nil _ _ _ _ _, by repeat (first | exact HB2.out | apply pw_below_drewN | apply below_drew1 | apply below_drew)⟩
      | true =>
        have HQ2 := Aside0.mk (HF.out true hf)
        have HV := Aside0.mk (show r = (liveM l0).filter (oddB (liveM l0) a1 a2 a3) by rw [← HR.out]; unfold strangeM; rw [hg, hf]; rfl)
        have HP := Aside0.mk (And.intro hg hf)
        clear HG HF HR hg hf
        go_upto_region 3 with (first | (go_at_call 12; refine (HQ.out _ HB1.out).mono ?_; rintro e w2 ⟨rfl, hb⟩; have HB2 := Aside0.mk (below_step HB1.out hb); have J0 := Aside0.mk (blk_below K0.out hb); have J1 := Aside0.mk (blk_below K1.out hb); have J2 := Aside0.mk (blk_below K2.out hb); have J3 := Aside0.mk (blk_below K3.out hb); have c1' : w2.cell? ⟨w.heap.size + 1, 0, none⟩ = some (.int .i64 a1) := (blk_cell J1.out 0).trans rfl; have c2' : w2.cell? ⟨w.heap.size + 1 + 1, 0, none⟩ = some (.int .i64 a2) := (blk_cell J2.out 0).trans rfl; have c3' : w2.cell? ⟨w.heap.size + 1 + 1 + 1, 0, none⟩ = some (.int .i64 a3) := (blk_cell J3.out 0).trans rfl; clear hb c0' K0 K1 K2 K3 HB1) | (go_at_call 13; refine (HQ2.out _).mono ?_; rintro e w' ⟨rfl, ⟨nd, rfl⟩⟩))
        have HB3 : Aside0 (Below w.heap.size w (w2.drewN nd)) := ⟨pw_below_drewN HB2.out nd⟩
        have M0 : Aside0 ((w2.drewN nd).heap[w.heap.size]? = some (.cells #[.slice A0 l0.length c0] 23 (0, 0))) := ⟨J0.out⟩
        have M1 : Aside0 ((w2.drewN nd).heap[w.heap.size + 1]? = some (.cells #[.int .i64 a1] 3 (0, 0))) := ⟨J1.out⟩
        have M2 : Aside0 ((w2.drewN nd).heap[w.heap.size + 1 + 1]? = some (.cells #[.int .i64 a2] 3 (0, 0))) := ⟨J2.out⟩
        have M3 : Aside0 ((w2.drewN nd).heap[w.heap.size + 1 + 1 + 1]? = some (.cells #[.int .i64 a3] 3 (0, 0))) := ⟨J3.out⟩
        clear HB2 J0 J1 J2 J3 c1' c2' c3' HQ HQ2
        generalize w2.drewN nd = W2 at *
        have c0' : W2.cell? ⟨w.heap.size, 0, none⟩ = some (.slice A0 l0.length c0) := (blk_cell M0.out 0).trans rfl
        have HLV := Aside0.mk (live_of (c := c0) (w := W2) (Kd.C_below HC.out HB3.out) HL.out)
        have HN := Aside0.mk (live_len l0)
        have HLS := Aside0.mk (live_sorted HP.out.1)
        have HLT := Aside0.mk (live_time HP.out.1)
        have HPF := Aside0.mk HP.out.2
        clear HP
        generalize liveM l0 = L at *
        go_upto_region 4 with (go_at_call 14; refine HLV.out.mono ?_; rintro e w3 ⟨v0, rfl, ho, hb⟩; obtain ⟨A', c', rfl⟩ := Kd.R_slice ho; have HO := Aside0.mk ho; have HB := Aside0.mk hb; have N0 := Aside0.mk (blk_below M0.out hb); have hz0 : w3.cell? ⟨w.heap.size, 0, none⟩ = some (.slice A0 l0.length c0) := (blk_cell N0.out 0).trans rfl; have hf0 := blk_frozen N0.out 0; clear ho hb c0')
        have E0 := Aside0.mk (blk_put N0.out 0 (.slice A' L.length c') (cs' := #[.slice A' L.length c']) rfl)
        have E1 := Aside0.mk (blk_far (blk_below M1.out HB.out) (p := ⟨w.heap.size, 0, none⟩) (show w.heap.size + 1 ≠ w.heap.size by omega) (.slice A' L.length c'))
        have E2 := Aside0.mk (blk_far (blk_below M2.out HB.out) (p := ⟨w.heap.size, 0, none⟩) (show w.heap.size + 1 + 1 ≠ w.heap.size by omega) (.slice A' L.length c'))
        have E3 := Aside0.mk (blk_far (blk_below M3.out HB.out) (p := ⟨w.heap.size, 0, none⟩) (show w.heap.size + 1 + 1 + 1 ≠ w.heap.size by omega) (.slice A' L.length c'))
        have HR4 := Aside0.mk (Kd.R_far (p := ⟨w.heap.size, 0, none⟩) (Kd.R_newB HO.out M0.out) (fun _ hk => hk.2) (.slice A' L.length c'))
        have HB4 := Aside0.mk (below_set (j := 0) (v := .slice A' L.length c') (below_step HB3.out HB.out) (Nat.le_refl w.heap.size))
        clear HO HB N0 hz0 hf0 M0 M1 M2 M3 HB3 HLV
        generalize w3.setCell ⟨w.heap.size, 0, none⟩ (.slice A' L.length c') = W4 at E0 E1 E2 E3 HR4 HB4 ⊢
        have HK := Kd.R_reads' HR4.out
        have d0 : W4.cell? ⟨w.heap.size, 0, none⟩ = some (.slice A' L.length c') := (blk_cell E0.out 0).trans rfl
        have d1 : W4.cell? ⟨w.heap.size + 1, 0, none⟩ = some (.int .i64 a1) := (blk_cell E1.out 0).trans rfl
        have d2 : W4.cell? ⟨w.heap.size + 1 + 1, 0, none⟩ = some (.int .i64 a2) := (blk_cell E2.out 0).trans rfl
        have d3 : W4.cell? ⟨w.heap.size + 1 + 1 + 1, 0, none⟩ = some (.int .i64 a3) := (blk_cell E3.out 0).trans rfl
        have hLl : L.length ≤ 1048576 := by have := HN.out; have := HL.out; omega
        have HQF := Aside0.mk (filter_of (c := c') 16 #[.pointer (some ⟨w.heap.size, 0, none⟩), .pointer (some ⟨w.heap.size + 1, 0, none⟩), .pointer (some ⟨w.heap.size + 1 + 1, 0, none⟩), .pointer (some ⟨w.heap.size + 1 + 1 + 1, 0, none⟩)] (enters_of Try.func16 (by kernel_rfl) rfl) (oddB L a1 a2 a3) HK.2.2 hLl (odd_of hLl HLS.out HLT.out HPF.out d0 d1 d2 d3 HK.2.2 HK.2.1))
        clear HK d1 d2 d3 hLl E0 E1 E2 E3 HR4
        go_wp2_with (go_at_call 15; refine HQF.out.mono ?_; rintro e w5 ⟨v1, rfl, ho5, hb5⟩)
        go_ret
        exact ⟨_, rfl, by rw [HV.out]; exact Kd.R_lower ho5 (below_size HB4.out), below_step HB4.out hb5⟩
  · rw [if_neg hl] at h
    exact absurd h (by simp)
end Go.Proofs.Ytedfbdholjjflaa.PFnStrange
