/- spec.DrawStrangeIn: what it draws. -/
import Derived.Test.YtedfbdholjjflaaPFnStrangex3
import Derived.Test.YtedfbdholjjflaaPFnStrangex4
namespace Go.Proofs.Ytedfbdholjjflaa.PFnStrange
open Go.RowKit Go.Shelf Go.Proofs.YtedfbdholjjflaaW.PrintWords Go.Proofs.YtedfbdholjjflaaW.PrintLast Go.Proofs.YtedfbdholjjflaaW.PrintMore
set_option linter.unusedVariables false
set_option linter.unusedSimpArgs false
def spec_DrawStrangeIn.f (k : Nat) (l0 : List Int) : Option (List S29 × Int × Int × Int) :=
  (spec_l1Cur_pick.f l0 0 0 12).bind fun p => (spec_l1Cur_seasonal.f k l0 p.2.1 p.2.2 (wrap64 (2 + p.1))).bind fun s => (spec_l1Cur_oddSamples.f l0 s.2.1 s.2.2 s.1).bind fun o => (spec_l1Cur_pick.f l0 o.2.1 o.2.2 6).bind fun q => (spec_l1Cur_pick.f l0 q.2.1 q.2.2 40).bind fun u => some (o.1, wrap64 (2 + p.1), wrap64 (2 + q.1), u.1)
theorem spec_DrawStrangeIn.mono (k : Nat) (l0 : List Int) : LeO (spec_DrawStrangeIn.f k l0) (spec_DrawStrangeIn.f (k + 1) l0) := by
  intro r h
  unfold spec_DrawStrangeIn.f at h ⊢
  obtain ⟨p, hp, h⟩ := Option.bind_eq_some_iff.mp h
  obtain ⟨s, hs, h⟩ := Option.bind_eq_some_iff.mp h
  exact Option.bind_eq_some_iff.mpr ⟨p, hp, Option.bind_eq_some_iff.mpr ⟨s, spec_l1Cur_seasonal.mono _ _ _ _ _ _ hs, h⟩⟩
set_option maxHeartbeats 8000000 in
set_option maxRecDepth 100000 in
theorem spec_DrawStrangeIn.calls (k : Nat) (A0 : Option Addr) (c0 : Nat) (l0 : List Int) (r1 : List S29) (r2 r3 r4 : Int) (w : World) (hr0 : Kd.C (Kd.int .u8) w A0 l0.length l0) (hc0 : l0.length ≤ c0) (h : spec_DrawStrangeIn.f k l0 = some (r1, r2, r3, r4)) :
    Calls Try.prog 4 #[.slice A0 l0.length c0] w fun e w' => ∃ v0_ : Value, e = .returned (.tuple #[v0_, .int .i64 r2, .int .i64 r3, .int .i64 r4]) ∧ Kd.R k29 29 w' w.heap.size (fun _ => True) v0_ r1 ∧ Below w.heap.size w w' := by
  unfold spec_DrawStrangeIn.f at h
  obtain ⟨⟨p1, p2, p3⟩, hp, h1⟩ := Option.bind_eq_some_iff.mp h
  obtain ⟨⟨s1, s2, s3⟩, hs, h2⟩ := Option.bind_eq_some_iff.mp h1
  obtain ⟨⟨o1, o2, o3⟩, ho, h3⟩ := Option.bind_eq_some_iff.mp h2
  obtain ⟨⟨q1, q2, q3⟩, hq, h4⟩ := Option.bind_eq_some_iff.mp h3
  obtain ⟨⟨u1, u2, u3⟩, hu, h5⟩ := Option.bind_eq_some_iff.mp h4
  clear h h1 h2 h3 h4
  simp only [Option.some.injEq, Prod.mk.injEq] at h5 hp hs ho hq hu
  obtain ⟨rfl, rfl, rfl, rfl⟩ := h5
  have HP := Aside0.mk hp
  have HS := Aside0.mk hs
  have HO := Aside0.mk ho
  have HQ := Aside0.mk hq
  have HU := Aside0.mk hu
  clear hp hs ho hq hu
  have HI := Aside0.mk (IsS36.new w w A0 c0 l0 0 0 (Below.refl _ _) hr0)
  have HB1 := Aside0.mk (below_alloc (Below.refl w.heap.size w) (.cells #[.slice A0 l0.length c0, .int .i64 0, .int .u64 0] 36))
  go_enter Try.func4, Try.ntmps4
  go_upto_region 2 with (fail)
  clear hr0
  generalize w.alloc (.cells #[.slice A0 l0.length c0, .int .i64 0, .int .u64 0] 36) = W1 at HI HB1 ⊢
  have HG := Aside0.mk (Nat.le_refl w.heap.size)
  generalize hg : w.heap.size = g at HI ⊢
  clear HG
  go_upto_region 3 with (go_at_call 9; refine (spec_l1Cur_pick.calls g l0 0 0 12 p1 p2 p3 w _ (by repeat (first | exact HI.out | apply IsS36.drewN | apply IsS36.drew)) (by repeat (first | exact hg ▸ HB1.out | apply pw_below_drewN | apply below_drew1)) HP.out).mono ?_; rintro e w2 ⟨rfl, hi2, hb2, hk2⟩)
  have HI2 := Aside0.mk hi2
  have HB2 := Aside0.mk hb2
  clear hi2 hb2 hk2 HI HB1
  go_upto_region 4 with (first | (go_at_call 11; refine (spec_l1Cur_seasonal.calls k g l0 p2 p3 (wrap64 (2 + p1)) s1 s2 s3 w _ (by repeat (first | exact HI2.out | apply IsS36.drewN | apply IsS36.drew)) (by repeat (first | exact HB2.out | apply pw_below_drewN | apply below_drew1)) HS.out).mono ?_; rintro e w3 ⟨v3, rfl, ho3, hi3, hb3, hk3⟩; have HI3 := Aside0.mk hi3; have HB3 := Aside0.mk hb3; have HO3 := Aside0.mk (Kd.R_lower ho3 (below_size HB2.out)); clear hi3 hb3 hk3 ho3 HI2) | (go_at_call 10; refine (spec_l1Cur_oddSamples.calls g l0 s2 s3 (fun _ => True) v3 s1 o1 o2 o3 w _ (by repeat (first | exact HI3.out | apply IsS36.drewN | apply IsS36.drew)) (by repeat (first | exact HB3.out | apply pw_below_drewN | apply below_drew1)) (by repeat (first | exact HO3.out | apply Kd.R_drewN | apply Kd.R_drew)) HO.out).mono ?_; rintro e w4 ⟨v4, rfl, ho4, hi4, hb4, hk4⟩; have HI4 := Aside0.mk hi4; have HB4 := Aside0.mk hb4; have HO4 := Aside0.mk (Kd.R_mono ho4 (fun _ _ => trivial) : Kd.R k29 29 w4 w.heap.size (fun _ => True) v4 o1); clear hi4 hb4 hk4 ho4 HI3 HO3))
  -- the return
  go_wp2_with (first | (go_at_call 9; with_reducible refine (spec_l1Cur_pick.calls g l0 o2 o3 6 q1 q2 q3 w _ HI4.out HB4.out HQ.out).mono ?_; rintro e w5 ⟨rfl, hi, hb, hk⟩; have HI5 := Aside0.mk hi; have HB5 := Aside0.mk hb; have HO5 := Aside0.mk (Kd.R_mono (Kd.R_keep (IsS36.apart HI4.out HO4.out (by decide)) hk (fun _ h => h.2)) (fun _ _ => trivial) : Kd.R k29 29 w5 w.heap.size (fun _ => True) v4 o1); clear hi hb hk HI4 HO4) | (go_at_call 9; with_reducible refine (spec_l1Cur_pick.calls g l0 q2 q3 40 u1 u2 u3 w _ HI5.out HB5.out HU.out).mono ?_; rintro e w6 ⟨rfl, hi, hb, hk⟩; have HI6 := Aside0.mk hi; have HB6 := Aside0.mk hb; have HO6 := Aside0.mk (Kd.R_mono (Kd.R_keep (IsS36.apart HI5.out HO5.out (by decide)) hk (fun _ h => h.2)) (fun _ _ => trivial) : Kd.R k29 29 w6 w.heap.size (fun _ => True) v4 o1); clear hi hb hk HI5 HO5))
  (try simp only [Exit.inBlock, Exit.then])
  refine bodyPost_ret (results_list (rs := [.tmp 2, .tmp 3, .tmp 4, .tmp 5]) rfl (by simp) (.tmp (.tmp (.tmp (.tmp .nil))))) rfl ?_
  exact ⟨_, rfl, by (with_reducible repeat (first | apply Kd.R_alloc | apply Kd.R_drewN | apply Kd.R_drew)); exact HO6.out, by repeat (first | exact HB6.out | apply pw_below_drewN | apply below_drew1)⟩
end Go.Proofs.Ytedfbdholjjflaa.PFnStrange
