/- spec.DrawCriticalPath: what it draws. -/
import Derived.Test.YtalhphclogbpnaaHTr
import Derived.Test.YtalhphclogbpnaaHOdd
namespace Go.Proofs.Ytalhphclogbpnaa.PFnCritical
open Go.RowKit Go.Proofs.YtalhphclogbpnaaW.PrintWords Go.Proofs.YtalhphclogbpnaaW.PrintLast Go.Proofs.YtalhphclogbpnaaW.PrintMore
set_option linter.unusedVariables false
set_option linter.unusedSimpArgs false
def spec_DrawCriticalPath.f (k : Nat) (l0 : List Int) : Option (Int × List SC) :=
  (spec_l1Cur_trace.f k l0 0 0 1).bind fun t => (spec_l1Cur_one.f l0 t.2.2.1 t.2.2.2 8).bind fun o => if o.1 = true then spec_l1Cur_oddTrace.f k l0 o.2.1 o.2.2 t.1 t.2.1 else some (t.1, t.2.1)
theorem spec_DrawCriticalPath.mono (k : Nat) (l0 : List Int) : LeO (spec_DrawCriticalPath.f k l0) (spec_DrawCriticalPath.f (k + 1) l0) := by
  unfold spec_DrawCriticalPath.f
  refine LeO.bind (spec_l1Cur_trace.mono _ _ _ _ _) (fun t => LeO.bind (LeO.refl _) (fun o => LeO.ite (spec_l1Cur_oddTrace.mono _ _ _ _ _ _) (LeO.refl _)))
set_option maxHeartbeats 8000000 in
set_option maxRecDepth 100000 in
theorem spec_DrawCriticalPath.calls (k : Nat) (A0 : Option Addr) (c0 : Nat) (l0 : List Int) (r1 : Int) (r2 : List SC) (w : World) (hr0 : Kd.C (Kd.int .u8) w A0 l0.length l0) (hc0 : l0.length ≤ c0) (h : spec_DrawCriticalPath.f k l0 = some (r1, r2)) :
    Calls Try.prog 4 #[.slice A0 l0.length c0] w fun e w' => ∃ v0_ : Value, e = .returned (.agg #[.int .i64 r1, v0_]) ∧ Kd.R kT 34 w' w.heap.size (fun _ => True) v0_ r2 ∧ Below w.heap.size w w' := by
  unfold spec_DrawCriticalPath.f at h
  obtain ⟨⟨t1, tl, t3, t4⟩, ht, h1⟩ := Option.bind_eq_some_iff.mp h
  clear h
  dsimp only at ht h1
  obtain ⟨⟨o, o1, o2⟩, ho, h2⟩ := Option.bind_eq_some_iff.mp h1
  clear h1
  dsimp only at ho h2
  have HTR := Aside0.mk ht
  have HON := Aside0.mk ho
  clear ht ho
  have hu25 := Try.underlying25
  have sz : ∀ (w : World) (o : Obj), (w.alloc o).heap.size = w.heap.size + 1 := fun w o => by first | rfl | (rw [World.alloc_eq]; exact Array.size_push _) | simp
  -- the world behind the variable of the result is the one that the draws are told over
  have HR := Aside0.mk (blk_new w (.cells #[.int .i64 0, .slice none 0 0] 25))
  have HB0 := Aside0.mk (below_alloc (Below.refl w.heap.size w) (.cells #[.int .i64 0, .slice none 0 0] 25))
  have HS := Aside0.mk (sz w (.cells #[.int .i64 0, .slice none 0 0] 25))
  have HC := Aside0.mk (Kd.C_alloc hr0 (.cells #[.int .i64 0, .slice none 0 0] 25))
  have HC0 := Aside0.mk hc0
  have H2 := Aside0.mk h2
  clear hr0 h2
  go_enter Try.func4, Try.ntmps4
  go_upto_region 1 with (fail)
  generalize w.alloc (.cells #[.int .i64 0, .slice none 0 0] 25) = w1 at HR HB0 HS HC ⊢
  have HI := Aside0.mk (IsS41.new w1 w1 A0 c0 l0 0 0 (Below.refl _ _) HC.out)
  have HB := Aside0.mk (below_alloc (Below.refl w1.heap.size w1) (.cells #[.slice A0 l0.length c0, .int .i64 0, .int .u64 0] 41))
  go_upto_region 2 with (fail)
  generalize w1.alloc (.cells #[.slice A0 l0.length c0, .int .i64 0, .int .u64 0] 41) = w2 at HI HB ⊢
  clear HC
  generalize hg : w1.heap.size = g at HI ⊢
  go_upto_region 3 with (go_at_call 10; refine (spec_l1Cur_trace.calls k g l0 0 0 1 t1 tl t3 t4 w1 _ HI.out (hg ▸ HB.out) HTR.out).mono ?_; rintro e w3 ⟨v3, rfl, hr, hi, hb⟩; obtain ⟨A3, c3, rfl⟩ := Kd.R_slice hr; have HO := Aside0.mk hr; have HI3 := Aside0.mk hi; have HB3 := Aside0.mk hb; clear hr hi hb HI HB)
  clear HTR
  have HV := Aside0.mk (blk_new w3 (.cells #[.int .i64 t1, (.slice A3 tl.length c3)] 25))
  replace HO := Aside0.mk (Kd.R_alloc HO.out (.cells #[.int .i64 t1, (.slice A3 tl.length c3)] 25))
  replace HI3 := Aside0.mk (HI3.out.alloc (.cells #[.int .i64 t1, (.slice A3 tl.length c3)] 25))
  have HGV := Aside0.mk (show w1.heap.size ≤ w3.heap.size from HB3.out.size)
  replace HB3 := Aside0.mk (below_alloc HB3.out (.cells #[.int .i64 t1, (.slice A3 tl.length c3)] 25))
  generalize w3.alloc (.cells #[.int .i64 t1, (.slice A3 tl.length c3)] 25) = w4 at HV HO HI3 HB3 ⊢
  generalize w3.heap.size = gV at HV HGV ⊢
  by_cases hc : o = true
  · subst hc
    have h2 := H2.out
    rw [if_pos rfl] at h2
    have HOD := Aside0.mk h2
    clear h2 H2
    have hv0 : w4.cell? ⟨gV, 0, none⟩ = some (.int .i64 t1) := (blk_cell HV.out 0).trans rfl
    have hv1 : w4.cell? ⟨gV, 1, none⟩ = some (Value.slice A3 tl.length c3) := (blk_cell HV.out 1).trans rfl
    have hn0 : ∀ W : World, W.heap[gV]? = some (.cells #[.int .i64 t1, (.slice A3 tl.length c3)] 25 (0, 0)) → W.cell? ⟨gV, 0, none⟩ = some (.int .i64 t1) ∧ W.cell? ⟨gV, 1, none⟩ = some (Value.slice A3 tl.length c3) ∧ W.frozen? ⟨gV, 0, none⟩ = false ∧ W.frozen? ⟨gV, 1, none⟩ = false := fun W hW => ⟨(blk_cell hW 0).trans rfl, (blk_cell hW 1).trans rfl, blk_frozen hW 0, blk_frozen hW 1⟩
    have HN0 := Aside0.mk hn0
    clear hn0
    go_upto_region 5 with (first
      | (go_at_call 11; refine (spec_l1Cur_one.calls g l0 t3 t4 8 true o1 o2 w1 _ HI3.out HB3.out HON.out).mono ?_; rintro e w5 ⟨rfl, hi, hb, hk⟩; clear hv0 hv1; replace HV := Aside0.mk (KeepBut.blk hk HV.out (fun e => IsS41.ne_blk HI3.out HV.out (by decide) e.symm) (by simp)); replace HO := Aside0.mk (Kd.R_mono (Kd.R_keep (IsS41.apart HI3.out HO.out (by decide)) hk (fun _ h => h.2)) (fun _ _ => trivial) : Kd.R kT 34 w5 w1.heap.size (fun _ => True) (.slice A3 tl.length c3) tl); replace HI3 := Aside0.mk hi; replace HB3 := Aside0.mk hb; clear hi hb hk HON; obtain ⟨hv0, hv1, hf0, hf1⟩ := HN0.out _ HV.out; clear hf0 hf1)
      | (go_at_call 12; refine (spec_l1Cur_oddTrace.calls k g l0 o1 o2 t1 tl r1 r2 (.slice A3 tl.length c3) w1 _ HI3.out HB3.out HO.out HV.out HOD.out).mono ?_; rintro e w6 ⟨v6, rfl, hr, hb, hv⟩; obtain ⟨A6, c6, rfl⟩ := Kd.R_slice hr; clear hv0 hv1 HO HI3 HB3; replace HV := Aside0.mk hv; have HO := Aside0.mk hr; have HB3 := Aside0.mk hb; clear hr hb hv; obtain ⟨hv0, hv1, hf0, hf1⟩ := HN0.out _ HV.out))
    clear hv0 hv1 hf0 hf1 HN0 HOD
    replace HO := Aside0.mk (Kd.R_mono (Kd.R_far (p := ⟨gV, 1, none⟩) (Kd.R_far (p := ⟨gV, 0, none⟩) (Kd.R_types HO.out HV.out (by decide)) (fun _ hk => hk.2) (.int .i64 r1)) (fun _ hk => hk.2) (.slice A6 r2.length c6)) (fun _ _ => trivial) : Kd.R kT 34 ((w6.setCell ⟨gV, 0, none⟩ (.int .i64 r1)).setCell ⟨gV, 1, none⟩ (.slice A6 r2.length c6)) w1.heap.size (fun _ => True) (.slice A6 r2.length c6) r2)
    replace HB3 := Aside0.mk (below_set (below_set HB3.out HGV.out (j := 0) (v := .int .i64 r1)) HGV.out (j := 1) (v := (.slice A6 r2.length c6)))
    replace HV : Aside0 (((w6.setCell ⟨gV, 0, none⟩ (.int .i64 r1)).setCell ⟨gV, 1, none⟩ (.slice A6 r2.length c6)).heap[gV]? = some (.cells #[.int .i64 r1, (.slice A6 r2.length c6)] 25 (0, 0))) := ⟨blk_put (cs := #[.int .i64 r1, (.slice A3 tl.length c3)]) (blk_put (cs := #[.int .i64 t1, (.slice A3 tl.length c3)]) HV.out 0 _ rfl) 1 _ rfl⟩
    generalize (w6.setCell ⟨gV, 0, none⟩ (.int .i64 r1)).setCell ⟨gV, 1, none⟩ (.slice A6 r2.length c6) = w7 at HV HO HB3 ⊢
    have hv0 : w7.cell? ⟨gV, 0, none⟩ = some (.int .i64 r1) := (blk_cell HV.out 0).trans rfl
    have hv1 : w7.cell? ⟨gV, 1, none⟩ = some (.slice A6 r2.length c6) := (blk_cell HV.out 1).trans rfl
    have hlt : w.heap.size < w1.heap.size := blk_lt HR.out
    have HR7 := Aside0.mk ((HB3.out.block _ hlt).trans HR.out)
    have hr0 : w7.cell? ⟨w.heap.size, 0, none⟩ = some (.int .i64 0) := (blk_cell HR7.out 0).trans rfl
    have hr1 : w7.cell? ⟨w.heap.size, 1, none⟩ = some (.slice none 0 0) := (blk_cell HR7.out 1).trans rfl
    have hf0 := blk_frozen HR7.out 0
    have hf1 := blk_frozen HR7.out 1
    have hn1 : w.heap.size ≠ gV := by have := HGV.out; omega
    have hn2 := hn1.symm
    go_wp2
    refine bodyPost_ret (results_cell_row rfl _ _ w.heap.size 25 #[.int .i64 r1, (.slice A6 r2.length c6)] (0, 0) _ rfl (blk_put (cs := #[.int .i64 r1, .slice none 0 0]) (blk_put (cs := #[.int .i64 0, .slice none 0 0]) HR7.out 0 _ rfl) 1 _ rfl) Try.underlying25 rfl (by kernel_rfl)) rfl ?_
    exact ⟨_, rfl, Kd.R_lower (Kd.R_mono (Kd.R_far (p := ⟨w.heap.size, 1, none⟩) (Kd.R_far (p := ⟨w.heap.size, 0, none⟩) (Kd.R_types HO.out HR7.out (by decide)) (fun _ hk => hk.2) _) (fun _ hk => hk.2) _) (fun _ _ => trivial)) (Nat.le_of_lt hlt), below_set (below_set (below_then HB0.out (Nat.le_of_lt hlt) HB3.out) (Nat.le_refl _)) (Nat.le_refl _)⟩
  · have ho : o = false := Bool.eq_false_iff.mpr hc
    subst ho
    have h2 := H2.out
    rw [if_neg hc] at h2
    simp only [Option.some.injEq, Prod.mk.injEq] at h2
    obtain ⟨rfl, rfl⟩ := h2
    clear H2 hc
    go_upto_region 5 with (go_at_call 11; refine (spec_l1Cur_one.calls g l0 t3 t4 8 false o1 o2 w1 _ HI3.out HB3.out HON.out).mono ?_; rintro e w7 ⟨rfl, hi, hb, hk⟩; replace HV := Aside0.mk (KeepBut.blk hk HV.out (fun e => IsS41.ne_blk HI3.out HV.out (by decide) e.symm) (by simp)); replace HO := Aside0.mk (Kd.R_mono (Kd.R_keep (IsS41.apart HI3.out HO.out (by decide)) hk (fun _ h => h.2)) (fun _ _ => trivial) : Kd.R kT 34 w7 w1.heap.size (fun _ => True) (.slice A3 tl.length c3) tl); replace HB3 := Aside0.mk hb; clear hi hb hk HON HI3)
    have hv0 : w7.cell? ⟨gV, 0, none⟩ = some (.int .i64 t1) := (blk_cell HV.out 0).trans rfl
    have hv1 : w7.cell? ⟨gV, 1, none⟩ = some (Value.slice A3 tl.length c3) := (blk_cell HV.out 1).trans rfl
    have hlt : w.heap.size < w1.heap.size := blk_lt HR.out
    have HR7 := Aside0.mk ((HB3.out.block _ hlt).trans HR.out)
    have hr0 : w7.cell? ⟨w.heap.size, 0, none⟩ = some (.int .i64 0) := (blk_cell HR7.out 0).trans rfl
    have hr1 : w7.cell? ⟨w.heap.size, 1, none⟩ = some (.slice none 0 0) := (blk_cell HR7.out 1).trans rfl
    have hf0 := blk_frozen HR7.out 0
    have hf1 := blk_frozen HR7.out 1
    have hn1 : w.heap.size ≠ gV := by have := HGV.out; omega
    have hn2 := hn1.symm
    go_wp2
    refine bodyPost_ret (results_cell_row rfl _ _ w.heap.size 25 #[.int .i64 t1, (.slice A3 tl.length c3)] (0, 0) _ rfl (blk_put (cs := #[.int .i64 t1, .slice none 0 0]) (blk_put (cs := #[.int .i64 0, .slice none 0 0]) HR7.out 0 _ rfl) 1 _ rfl) Try.underlying25 rfl (by kernel_rfl)) rfl ?_
    exact ⟨_, rfl, Kd.R_lower (Kd.R_mono (Kd.R_far (p := ⟨w.heap.size, 1, none⟩) (Kd.R_far (p := ⟨w.heap.size, 0, none⟩) (Kd.R_types HO.out HR7.out (by decide)) (fun _ hk => hk.2) _) (fun _ hk => hk.2) _) (fun _ _ => trivial)) (Nat.le_of_lt hlt), below_set (below_set (below_then HB0.out (Nat.le_of_lt hlt) HB3.out) (Nat.le_refl _)) (Nat.le_refl _)⟩
end Go.Proofs.Ytalhphclogbpnaa.PFnCritical
