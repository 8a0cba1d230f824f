-- Written by a program of this repo (myprint: the kit's print with functions given by hand).
import Derived.Test.YtcfijablfjbimaaPFnExactCriticalPathx0
import Derived.Test.YtcfijablfjbimaaPFnExactCriticalPathx2
namespace Go.Proofs.Ytcfijablfjbimaa.PFnExactCriticalPath
attribute [local go_sem] Go.Proofs.Ytcfijablfjbimaa.Cmp.str_gtr Go.Proofs.Ytcfijablfjbimaa.Cmp.str_geq Go.Proofs.Ytcfijablfjbimaa.Cmp.str_leq
open Go.RowKit Go.Proofs.YtcfijablfjbimaaW.PrintWords Go.Proofs.YtcfijablfjbimaaW.PrintLast Go.Proofs.YtcfijablfjbimaaW.PrintMore
attribute [local go_sem] max2_int min2_int max_two min_two max_three min_three max_four min_four   -- for this text's walks alone
set_option linter.unusedVariables false
set_option linter.unusedSimpArgs false

/-! ### spec_l23Path: function 15 -/
mutual
def spec_l23Path.l0 : Nat → Int → List (S43) → Int → List (S41) → Int → Int → ByteArray → ByteArray → Int → Int → Bool → Option ((List (S43)))
  | 0, _, _, _, _, _, _, _, _, _, _, _ => none
  | k + 1, x2, x3, x120000, x120001, x122000, x122001, x122002, x122003, x122004, x122005, x122006 => spec_l23Path.l1 k x2 x3 (-1) 0 x120001 (x120001.length : Int) 0 x120000 x120001 x122000 x122001 x122002 x122003 x122004 x122005 x122006
def spec_l23Path.l1 : Nat → Int → List (S43) → Int → Int → List (S41) → Int → Int → Int → List (S41) → Int → Int → ByteArray → ByteArray → Int → Int → Bool → Option ((List (S43)))
  | 0, _, _, _, _, _, _, _, _, _, _, _, _, _, _, _, _ => none
  | k + 1, x2, x3, x10, x11, x22, x23, x24, x120000, x120001, x122000, x122001, x122002, x122003, x122004, x122005, x122006 => if x24 < x23 then (if 0 ≤ x24 then (if x24 < (x22.length : Int) then (if ((rd_T41 x22 x24).f1) = x122000 then (if ((rd_T41 x22 x24).f5) ≤ ((rd_T41 x22 x24).f4) then (spec_l23Path.j2 k x2 x3 x10 x11 x24 x22 x23 x24 true x120000 x120001 x122000 x122001 x122002 x122003 x122004 x122005 x122006 ((rd_T41 x22 x24).f0) ((rd_T41 x22 x24).f1) ((rd_T41 x22 x24).f2) ((rd_T41 x22 x24).f3) ((rd_T41 x22 x24).f4) ((rd_T41 x22 x24).f5) ((rd_T41 x22 x24).f6)) else (spec_l23Path.j2 k x2 x3 x10 x11 x24 x22 x23 x24 (decide (((rd_T41 x22 x24).f4) ≥ x2)) x120000 x120001 x122000 x122001 x122002 x122003 x122004 x122005 x122006 ((rd_T41 x22 x24).f0) ((rd_T41 x22 x24).f1) ((rd_T41 x22 x24).f2) ((rd_T41 x22 x24).f3) ((rd_T41 x22 x24).f4) ((rd_T41 x22 x24).f5) ((rd_T41 x22 x24).f6))) else (spec_l23Path.j2 k x2 x3 x10 x11 x24 x22 x23 x24 true x120000 x120001 x122000 x122001 x122002 x122003 x122004 x122005 x122006 ((rd_T41 x22 x24).f0) ((rd_T41 x22 x24).f1) ((rd_T41 x22 x24).f2) ((rd_T41 x22 x24).f3) ((rd_T41 x22 x24).f4) ((rd_T41 x22 x24).f5) ((rd_T41 x22 x24).f6))) else (none)) else (none)) else (if x10 ≥ 0 then (spec_l23Path.j3 k x2 x3 x10 x11 x11 x120000 x120001 x122000 x122001 x122002 x122003 x122004 x122005 x122006) else (spec_l23Path.j3 k x2 x3 x10 x11 x122004 x120000 x120001 x122000 x122001 x122002 x122003 x122004 x122005 x122006))
def spec_l23Path.j2 : Nat → Int → List (S43) → Int → Int → Int → List (S41) → Int → Int → Bool → Int → List (S41) → Int → Int → ByteArray → ByteArray → Int → Int → Bool → Int → Int → ByteArray → ByteArray → Int → Int → Bool → Option ((List (S43)))
  | 0, _, _, _, _, _, _, _, _, _, _, _, _, _, _, _, _, _, _, _, _, _, _, _, _, _ => none
  | k + 1, x2, x3, x10, x11, x12, x22, x23, x24, x46, x120000, x120001, x122000, x122001, x122002, x122003, x122004, x122005, x122006, x124000, x124001, x124002, x124003, x124004, x124005, x124006 => if x46 = true then (spec_l23Path.l1 k x2 x3 x10 x11 x22 x23 (wrap64 (x24 + 1)) x120000 x120001 x122000 x122001 x122002 x122003 x122004 x122005 x122006) else ((spec_l23Less.f x124005 x2).bind fun t124 => (if x10 < 0 then (spec_l23Path.l1 k x2 x3 x12 t124 x22 x23 (wrap64 (x24 + 1)) x120000 x120001 x122000 x122001 x122002 x122003 x122004 x122005 x122006) else (if t124 ≥ x11 then (spec_l23Path.l1 k x2 x3 x12 t124 x22 x23 (wrap64 (x24 + 1)) x120000 x120001 x122000 x122001 x122002 x122003 x122004 x122005 x122006) else (spec_l23Path.l1 k x2 x3 x10 x11 x22 x23 (wrap64 (x24 + 1)) x120000 x120001 x122000 x122001 x122002 x122003 x122004 x122005 x122006))))
def spec_l23Path.j3 : Nat → Int → List (S43) → Int → Int → Int → Int → List (S41) → Int → Int → ByteArray → ByteArray → Int → Int → Bool → Option ((List (S43)))
  | 0, _, _, _, _, _, _, _, _, _, _, _, _, _, _ => none
  | k + 1, x2, x3, x10, x11, x15, x120000, x120001, x122000, x122001, x122002, x122003, x122004, x122005, x122006 => if x15 < x2 then (if x3.length < 5864062014805 then ((some (x3 ++ [(⟨x122000, x15, x2⟩ : S43)] : List (S43))).bind fun y125 => (if x10 < 0 then (some y125) else ((spec_l23Path.f k x120000 x120001 x10 x11 y125).bind fun t128 => (if 0 ≤ x10 then (if x10 < (x120001.length : Int) then (spec_l23Path.l0 k ((rd_T41 x120001 x10).f4) t128 x120000 x120001 x122000 x122001 x122002 x122003 x122004 x122005 x122006) else (none)) else (none))))) else (none)) else (if x10 < 0 then (some x3) else ((spec_l23Path.f k x120000 x120001 x10 x11 x3).bind fun t132 => (if 0 ≤ x10 then (if x10 < (x120001.length : Int) then (spec_l23Path.l0 k ((rd_T41 x120001 x10).f4) t132 x120000 x120001 x122000 x122001 x122002 x122003 x122004 x122005 x122006) else (none)) else (none))))
def spec_l23Path.f : Nat → Int → List (S41) → Int → Int → List (S43) → Option ((List (S43)))
  | 0, _, _, _, _, _ => none
  | k + 1, a0_0, l0_1, a1, a2, l3 => if 0 ≤ a1 then (if a1 < (l0_1.length : Int) then (spec_l23Path.l0 k a2 l3 a0_0 l0_1 ((rd_T41 l0_1 a1).f0) ((rd_T41 l0_1 a1).f1) ((rd_T41 l0_1 a1).f2) ((rd_T41 l0_1 a1).f3) ((rd_T41 l0_1 a1).f4) ((rd_T41 l0_1 a1).f5) ((rd_T41 l0_1 a1).f6)) else (none)) else (none)
end
theorem spec_l23Path.mono_l : ∀ k, (∀ y0 y1 y2 y3 y4, LeO (spec_l23Path.f k y0 y1 y2 y3 y4) (spec_l23Path.f (k + 1) y0 y1 y2 y3 y4)) ∧ (∀ y0 y1 y2 y3 y4 y5 y6 y7 y8 y9 y10, LeO (spec_l23Path.l0 k y0 y1 y2 y3 y4 y5 y6 y7 y8 y9 y10) (spec_l23Path.l0 (k + 1) y0 y1 y2 y3 y4 y5 y6 y7 y8 y9 y10)) ∧ (∀ y0 y1 y2 y3 y4 y5 y6 y7 y8 y9 y10 y11 y12 y13 y14 y15, LeO (spec_l23Path.l1 k y0 y1 y2 y3 y4 y5 y6 y7 y8 y9 y10 y11 y12 y13 y14 y15) (spec_l23Path.l1 (k + 1) y0 y1 y2 y3 y4 y5 y6 y7 y8 y9 y10 y11 y12 y13 y14 y15)) ∧ (∀ y0 y1 y2 y3 y4 y5 y6 y7 y8 y9 y10 y11 y12 y13 y14 y15 y16 y17 y18 y19 y20 y21 y22 y23 y24, LeO (spec_l23Path.j2 k y0 y1 y2 y3 y4 y5 y6 y7 y8 y9 y10 y11 y12 y13 y14 y15 y16 y17 y18 y19 y20 y21 y22 y23 y24) (spec_l23Path.j2 (k + 1) y0 y1 y2 y3 y4 y5 y6 y7 y8 y9 y10 y11 y12 y13 y14 y15 y16 y17 y18 y19 y20 y21 y22 y23 y24)) ∧ (∀ y0 y1 y2 y3 y4 y5 y6 y7 y8 y9 y10 y11 y12 y13, LeO (spec_l23Path.j3 k y0 y1 y2 y3 y4 y5 y6 y7 y8 y9 y10 y11 y12 y13) (spec_l23Path.j3 (k + 1) y0 y1 y2 y3 y4 y5 y6 y7 y8 y9 y10 y11 y12 y13))
  | 0 => ⟨fun _ _ _ _ _ r h => by simp [spec_l23Path.f] at h, fun _ _ _ _ _ _ _ _ _ _ _ r h => by simp [spec_l23Path.l0] at h, fun _ _ _ _ _ _ _ _ _ _ _ _ _ _ _ _ r h => by simp [spec_l23Path.l1] at h, fun _ _ _ _ _ _ _ _ _ _ _ _ _ _ _ _ _ _ _ _ _ _ _ _ _ r h => by simp [spec_l23Path.j2] at h, fun _ _ _ _ _ _ _ _ _ _ _ _ _ _ r h => by simp [spec_l23Path.j3] at h⟩
  | k + 1 => by
    obtain ⟨ih0, ih1, ih2, ih3, ih4⟩ := spec_l23Path.mono_l k
    refine ⟨?_, ?_, ?_, ?_, ?_⟩
    · intro y0 y1 y2 y3 y4
      unfold spec_l23Path.f
      repeat' first
      | (with_reducible exact ih0 _ _ _ _ _)
      | (with_reducible exact ih1 _ _ _ _ _ _ _ _ _ _ _)
      | (with_reducible exact ih2 _ _ _ _ _ _ _ _ _ _ _ _ _ _ _ _)
      | (with_reducible exact ih3 _ _ _ _ _ _ _ _ _ _ _ _ _ _ _ _ _ _ _ _ _ _ _ _ _)
      | (with_reducible exact ih4 _ _ _ _ _ _ _ _ _ _ _ _ _ _)
      | (with_reducible exact LeO.refl _)
      | (with_reducible exact LeO.none _)
      | (with_reducible refine LeO.ite ?_ ?_)
      | (with_reducible refine LeO.bind ?_ (fun _ => ?_))
      | exact ih0 _ _ _ _ _
      | exact ih1 _ _ _ _ _ _ _ _ _ _ _
      | exact ih2 _ _ _ _ _ _ _ _ _ _ _ _ _ _ _ _
      | exact ih3 _ _ _ _ _ _ _ _ _ _ _ _ _ _ _ _ _ _ _ _ _ _ _ _ _
      | exact ih4 _ _ _ _ _ _ _ _ _ _ _ _ _ _
      | exact LeO.none _
      | refine LeO.ite ?_ ?_
      | refine LeO.bind ?_ (fun _ => ?_)
    · intro y0 y1 y2 y3 y4 y5 y6 y7 y8 y9 y10
      unfold spec_l23Path.l0
      repeat' first
      | (with_reducible exact ih0 _ _ _ _ _)
      | (with_reducible exact ih1 _ _ _ _ _ _ _ _ _ _ _)
      | (with_reducible exact ih2 _ _ _ _ _ _ _ _ _ _ _ _ _ _ _ _)
      | (with_reducible exact ih3 _ _ _ _ _ _ _ _ _ _ _ _ _ _ _ _ _ _ _ _ _ _ _ _ _)
      | (with_reducible exact ih4 _ _ _ _ _ _ _ _ _ _ _ _ _ _)
      | (with_reducible exact LeO.refl _)
      | (with_reducible exact LeO.none _)
      | (with_reducible refine LeO.ite ?_ ?_)
      | (with_reducible refine LeO.bind ?_ (fun _ => ?_))
      | exact ih0 _ _ _ _ _
      | exact ih1 _ _ _ _ _ _ _ _ _ _ _
      | exact ih2 _ _ _ _ _ _ _ _ _ _ _ _ _ _ _ _
      | exact ih3 _ _ _ _ _ _ _ _ _ _ _ _ _ _ _ _ _ _ _ _ _ _ _ _ _
      | exact ih4 _ _ _ _ _ _ _ _ _ _ _ _ _ _
      | exact LeO.none _
      | refine LeO.ite ?_ ?_
      | refine LeO.bind ?_ (fun _ => ?_)
    · intro y0 y1 y2 y3 y4 y5 y6 y7 y8 y9 y10 y11 y12 y13 y14 y15
      unfold spec_l23Path.l1
      repeat' first
      | (with_reducible exact ih0 _ _ _ _ _)
      | (with_reducible exact ih1 _ _ _ _ _ _ _ _ _ _ _)
      | (with_reducible exact ih2 _ _ _ _ _ _ _ _ _ _ _ _ _ _ _ _)
      | (with_reducible exact ih3 _ _ _ _ _ _ _ _ _ _ _ _ _ _ _ _ _ _ _ _ _ _ _ _ _)
      | (with_reducible exact ih4 _ _ _ _ _ _ _ _ _ _ _ _ _ _)
      | (with_reducible exact LeO.refl _)
      | (with_reducible exact LeO.none _)
      | (with_reducible refine LeO.ite ?_ ?_)
      | (with_reducible refine LeO.bind ?_ (fun _ => ?_))
      | exact ih0 _ _ _ _ _
      | exact ih1 _ _ _ _ _ _ _ _ _ _ _
      | exact ih2 _ _ _ _ _ _ _ _ _ _ _ _ _ _ _ _
      | exact ih3 _ _ _ _ _ _ _ _ _ _ _ _ _ _ _ _ _ _ _ _ _ _ _ _ _
      | exact ih4 _ _ _ _ _ _ _ _ _ _ _ _ _ _
      | exact LeO.none _
      | refine LeO.ite ?_ ?_
      | refine LeO.bind ?_ (fun _ => ?_)
    · intro y0 y1 y2 y3 y4 y5 y6 y7 y8 y9 y10 y11 y12 y13 y14 y15 y16 y17 y18 y19 y20 y21 y22 y23 y24
      unfold spec_l23Path.j2
      repeat' first
      | (with_reducible exact ih0 _ _ _ _ _)
      | (with_reducible exact ih1 _ _ _ _ _ _ _ _ _ _ _)
      | (with_reducible exact ih2 _ _ _ _ _ _ _ _ _ _ _ _ _ _ _ _)
      | (with_reducible exact ih3 _ _ _ _ _ _ _ _ _ _ _ _ _ _ _ _ _ _ _ _ _ _ _ _ _)
      | (with_reducible exact ih4 _ _ _ _ _ _ _ _ _ _ _ _ _ _)
      | (with_reducible exact LeO.refl _)
      | (with_reducible exact LeO.none _)
      | (with_reducible refine LeO.ite ?_ ?_)
      | (with_reducible refine LeO.bind ?_ (fun _ => ?_))
      | exact ih0 _ _ _ _ _
      | exact ih1 _ _ _ _ _ _ _ _ _ _ _
      | exact ih2 _ _ _ _ _ _ _ _ _ _ _ _ _ _ _ _
      | exact ih3 _ _ _ _ _ _ _ _ _ _ _ _ _ _ _ _ _ _ _ _ _ _ _ _ _
      | exact ih4 _ _ _ _ _ _ _ _ _ _ _ _ _ _
      | exact LeO.none _
      | refine LeO.ite ?_ ?_
      | refine LeO.bind ?_ (fun _ => ?_)
    · intro y0 y1 y2 y3 y4 y5 y6 y7 y8 y9 y10 y11 y12 y13
      unfold spec_l23Path.j3
      repeat' first
      | (with_reducible exact ih0 _ _ _ _ _)
      | (with_reducible exact ih1 _ _ _ _ _ _ _ _ _ _ _)
      | (with_reducible exact ih2 _ _ _ _ _ _ _ _ _ _ _ _ _ _ _ _)
      | (with_reducible exact ih3 _ _ _ _ _ _ _ _ _ _ _ _ _ _ _ _ _ _ _ _ _ _ _ _ _)
      | (with_reducible exact ih4 _ _ _ _ _ _ _ _ _ _ _ _ _ _)
      | (with_reducible exact LeO.refl _)
      | (with_reducible exact LeO.none _)
      | (with_reducible refine LeO.ite ?_ ?_)
      | (with_reducible refine LeO.bind ?_ (fun _ => ?_))
      | exact ih0 _ _ _ _ _
      | exact ih1 _ _ _ _ _ _ _ _ _ _ _
      | exact ih2 _ _ _ _ _ _ _ _ _ _ _ _ _ _ _ _
      | exact ih3 _ _ _ _ _ _ _ _ _ _ _ _ _ _ _ _ _ _ _ _ _ _ _ _ _
      | exact ih4 _ _ _ _ _ _ _ _ _ _ _ _ _ _
      | exact LeO.none _
      | refine LeO.ite ?_ ?_
      | refine LeO.bind ?_ (fun _ => ?_)
theorem spec_l23Path.mono : ∀ a0 a1 a2 a3 a4 k, LeO (spec_l23Path.f k a0 a1 a2 a3 a4) (spec_l23Path.f (k + 1) a0 a1 a2 a3 a4) := by
  intro a0 a1 a2 a3 a4 k
  obtain ⟨ih0, ih1, ih2, ih3, ih4⟩ := spec_l23Path.mono_l k
  exact ih0 a0 a1 a2 a3 a4
set_option maxHeartbeats 8000000 in
set_option maxRecDepth 100000 in
theorem spec_l23Path.calls (k : Nat) : ∀ (a0_0 : Int) (A0_1 : Option Addr) (c0_1 : Nat) (l0_1 : List (S41)) (a1 : Int) (a2 : Int) (P3_ : Nat → Prop) (u9000_ : Value) (l3 : List (S43)) (r : List (S43)) (w0 w : World) (hB : Below w0.heap.size w0 w) (hr0_1 : ∀ W_, Kept w W_ (fun k_ => P3_ k_) → Kd.C k41 W_ A0_1 l0_1.length l0_1) (hc0_1 : l0_1.length ≤ c0_1) (ho3 : Kd.R k43 43 w w0.heap.size P3_ u9000_ l3) (h : spec_l23Path.f k a0_0 l0_1 a1 a2 l3 = some r),
    Calls Try.prog 15 #[.agg #[.int .i64 a0_0, .slice A0_1 l0_1.length c0_1], .int .i64 a1, .int .i64 a2, u9000_] w fun e w' => ∃ v0_ : Value, e = .returned (v0_) ∧ Kd.R k43 43 w' w0.heap.size (fun k_ => (P3_ k_ ∨ w.heap.size ≤ k_)) v0_ r ∧ Below w0.heap.size w0 w' ∧ Kept w w' (fun k_ => P3_ k_) := by
  induction k using Nat.strongRecOn with
  | _ k ih =>
  intro a0_0 A0_1 c0_1 l0_1 a1 a2 P3_ u9000_ l3 r w0 w hB hr0_1 hc0_1 ho3 h
  cases k with
  | zero => exact absurd h (by simp [spec_l23Path.f])
  | succ k =>
  simp only [spec_l23Path.f] at h
  have hu30 := Try.underlying30
  have hu41 := Try.underlying41
  have hu43 := Try.underlying43
  have HR0_1 := Aside0.mk hr0_1
  have HC0_1 := Aside0.mk hc0_1
  clear hr0_1 hc0_1
  have HO3 := Aside0.mk (show Kd.R k43 43 w w0.heap.size (fun k_ => (P3_ k_ ∨ w.heap.size ≤ k_)) u9000_ l3 from Kd.R_mono ho3 (fun k_ hk => (.inl hk)))
  have HK := Aside0.mk (Kept.refl w (fun k_ => P3_ k_))
  have HW0 := Aside0.mk hB.size
  have HB := Aside0.mk hB
  clear hB
  have H : (if 0 ≤ a1 then (if a1 < (l0_1.length : Int) then (spec_l23Path.l0 k a2 l3 a0_0 l0_1 ((rd_T41 l0_1 a1).f0) ((rd_T41 l0_1 a1).f1) ((rd_T41 l0_1 a1).f2) ((rd_T41 l0_1 a1).f3) ((rd_T41 l0_1 a1).f4) ((rd_T41 l0_1 a1).f5) ((rd_T41 l0_1 a1).f6)) else (none)) else (none)) = some r := h
  clear h
  by_cases c5 : 0 ≤ a1
  · rw [if_pos c5] at H
    have c5b0 : decide (0 ≤ a1) = true := decide_eq_true c5
    clear c5
    by_cases c6 : a1 < (l0_1.length : Int)
    · rw [if_pos c6] at H
      have c6b0 : decide (a1 < (l0_1.length : Int)) = true := decide_eq_true c6
      clear c6
      have H' := Aside0.mk H
      clear H
      go_enter Try.func15, Try.ntmps15
      go_wp2_with (first | ((with_reducible refine gate_dst (N := 4) rfl ?_); refine box_event ?hg (N := 4) ?hd (cs := #[.int .i64 a0_0, .slice A0_1 l0_1.length c0_1]) (t := 30) ?hr ?_; (case hd => rfl); (case hg => rfl); (case hr => first | (go_simp; done) | (go_simp; rfl)); intro gb119 hg w7 hbox hb; have n0_ := Aside0.mk (Kd.R_below (by (with_reducible repeat (first | apply Kd.R_alloc | apply Kd.R_drewN | apply Kd.R_drew)); exact HO3.out) hb); have n1_ := Aside0.mk (Kept.below (S := (fun k_ => P3_ k_)) (by repeat (first | (with_reducible first | exact HK.out | apply Kept.alloc | apply Kept.drewN | apply Kept.drew) | exact HK.out)) hb); have n2_ := Aside0.mk (below_step (by repeat (first | (with_reducible first | exact HB.out | apply below_alloc | apply pw_below_drewN | apply below_drew1) | exact HB.out)) hb); have n3_ := Aside0.mk (hbox); have n4_ := Aside0.mk ((by rw [hg]; exact (by first | exact HK.out.1 | exact (show Kept w _ (fun k_ => P3_ k_) from by repeat (first | (with_reducible first | exact HK.out | apply Kept.alloc | apply Kept.drewN | apply Kept.drew) | exact HK.out)).1) : w.heap.size ≤ gb119)); have n5_ := Aside0.mk ((by rw [hg]; exact (below_size (by repeat (first | (with_reducible first | exact HB.out | apply below_alloc | apply pw_below_drewN | apply below_drew1) | exact HB.out))) : w0.heap.size ≤ gb119)); clear HO3; clear HK; clear HB; have HO3 := n0_; have HK := n1_; have HB := n2_; have BK119 := n3_; have GW119 := n4_; have GE119 := n5_; clear n0_ n1_ n2_ n3_ n4_ n5_; clear hb hbox hg; have hcz8_0 : w7.cell? ⟨gb119, 0, none⟩ = some (.int .i64 a0_0) := (blk_cell BK119.out 0).trans rfl; have hcz8_1 : w7.cell? ⟨gb119, 1, none⟩ = some (.slice A0_1 l0_1.length c0_1) := (blk_cell BK119.out 1).trans rfl; have hfz8_0 := blk_frozen BK119.out 0; have hfz8_1 := blk_frozen BK119.out 1; have p120 : 0 ≤ (a1 : Int) := of_decide_eq_true (by first | (with_reducible assumption) | assumption); have q120 : a1 < (l0_1.length : Int) := of_decide_eq_true (by first | (with_reducible assumption) | assumption); obtain ⟨ad120, e120, hx120_0, hx120_1, hx120_2, hx120_3, hx120_4, hx120_5, hx120_6⟩ := at_T41 (Kd.C_kept_now HR0_1.out HK.out) a1 p120 q120; cases e120; replace p120 := eq_true p120; replace q120 := eq_true q120) | ((with_reducible refine gate_dst (N := 9) rfl ?_); refine box_event ?hg (N := 9) ?hd (cs := #[.int .i64 0, .int .i64 0, .string (⟨#[]⟩ : ByteArray), .string (⟨#[]⟩ : ByteArray), .int .i64 0, .int .i64 0, .bool false]) (t := 41) ?hr ?_; (case hd => rfl); (case hg => rfl); (case hr => first | (go_simp; done) | (go_simp; rfl)); intro gb121 hg w9 hbox hb; have n0_ := Aside0.mk (Kd.R_below (by (with_reducible repeat (first | apply Kd.R_alloc | apply Kd.R_drewN | apply Kd.R_drew)); exact HO3.out) hb); have n1_ := Aside0.mk (blk_below (g := gb119) (o := .cells #[.int .i64 a0_0, .slice (some ad120) l0_1.length c0_1] 30 (0, 0)) (by (with_reducible repeat (first | refine blk_drewN ?_ _ | refine blk_drew ?_ | refine blk_alloc ?_ _)); exact BK119.out) hb); have n2_ := Aside0.mk (Kept.below (S := (fun k_ => P3_ k_)) (by repeat (first | (with_reducible first | exact HK.out | apply Kept.alloc | apply Kept.drewN | apply Kept.drew | refine Kept.setCell ?_ (.inr GW119.out) _) | exact HK.out)) hb); have n3_ := Aside0.mk (below_step (by repeat (first | (with_reducible first | exact HB.out | apply below_alloc | apply pw_below_drewN | apply below_drew1 | refine below_set ?_ GE119.out) | exact HB.out)) hb); have n4_ := Aside0.mk (hbox); have n5_ := Aside0.mk ((by rw [hg]; exact (by first | exact HK.out.1 | exact (show Kept w _ (fun k_ => P3_ k_) from by repeat (first | (with_reducible first | exact HK.out | apply Kept.alloc | apply Kept.drewN | apply Kept.drew | refine Kept.setCell ?_ (.inr GW119.out) _) | exact HK.out)).1) : w.heap.size ≤ gb121)); have n6_ := Aside0.mk ((by rw [hg]; exact (below_size (by repeat (first | (with_reducible first | exact HB.out | apply below_alloc | apply pw_below_drewN | apply below_drew1 | refine below_set ?_ GE119.out) | exact HB.out))) : w0.heap.size ≤ gb121)); have n7_ := Aside0.mk ((by rw [hg]; exact Nat.ne_of_lt (blk_lt (g := gb119) (o := .cells #[.int .i64 a0_0, .slice (some ad120) l0_1.length c0_1] 30 (0, 0)) (by (with_reducible repeat (first | refine blk_drewN ?_ _ | refine blk_drew ?_ | refine blk_alloc ?_ _)); exact BK119.out)) : gb119 ≠ gb121)); have n8_ := Aside0.mk ((by rw [hg]; exact Nat.ne_of_gt (blk_lt (g := gb119) (o := .cells #[.int .i64 a0_0, .slice (some ad120) l0_1.length c0_1] 30 (0, 0)) (by (with_reducible repeat (first | refine blk_drewN ?_ _ | refine blk_drew ?_ | refine blk_alloc ?_ _)); exact BK119.out)) : gb121 ≠ gb119)); clear HO3; clear BK119; clear HK; clear HB; have HO3 := n0_; have BK119 := n1_; have HK := n2_; have HB := n3_; have BK121 := n4_; have GW121 := n5_; have GE121 := n6_; have NB119_121 := n7_; have NB121_119 := n8_; clear n0_ n1_ n2_ n3_ n4_ n5_ n6_ n7_ n8_; clear hb hbox hg; have hnb10 := NB121_119.out; have hnc10 := NB119_121.out; have hcz11_0 : w9.cell? ⟨gb121, 0, none⟩ = some (.int .i64 0) := (blk_cell BK121.out 0).trans rfl; have hcz11_1 : w9.cell? ⟨gb121, 1, none⟩ = some (.int .i64 0) := (blk_cell BK121.out 1).trans rfl; have hcz11_2 : w9.cell? ⟨gb121, 2, none⟩ = some (.string (⟨#[]⟩ : ByteArray)) := (blk_cell BK121.out 2).trans rfl; have hcz11_3 : w9.cell? ⟨gb121, 3, none⟩ = some (.string (⟨#[]⟩ : ByteArray)) := (blk_cell BK121.out 3).trans rfl; have hcz11_4 : w9.cell? ⟨gb121, 4, none⟩ = some (.int .i64 0) := (blk_cell BK121.out 4).trans rfl; have hcz11_5 : w9.cell? ⟨gb121, 5, none⟩ = some (.int .i64 0) := (blk_cell BK121.out 5).trans rfl; have hcz11_6 : w9.cell? ⟨gb121, 6, none⟩ = some (.bool false) := (blk_cell BK121.out 6).trans rfl; have hfz11_0 := blk_frozen BK121.out 0; have hfz11_1 := blk_frozen BK121.out 1; have hfz11_2 := blk_frozen BK121.out 2; have hfz11_3 := blk_frozen BK121.out 3; have hfz11_4 := blk_frozen BK121.out 4; have hfz11_5 := blk_frozen BK121.out 5; have hfz11_6 := blk_frozen BK121.out 6))
      go_loopg [2, 3] k (fun kq v2 v3 w' => ∃ (x2_1 : Int) (x3_1 : List (S43)), v2 = .int .i64 x2_1 ∧ Aside0 (spec_l23Path.l0 kq x2_1 x3_1 a0_0 l0_1 ((rd_T41 l0_1 a1).f0) ((rd_T41 l0_1 a1).f1) ((rd_T41 l0_1 a1).f2) ((rd_T41 l0_1 a1).f3) ((rd_T41 l0_1 a1).f4) ((rd_T41 l0_1 a1).f5) ((rd_T41 l0_1 a1).f6) = some r) ∧ Aside0 (kq ≤ k) ∧ Aside0 (Kd.R k43 43 w' w0.heap.size (fun k_ => (P3_ k_ ∨ w.heap.size ≤ k_)) v3 x3_1) ∧ Aside0 (w'.heap[gb119]? = some (.cells #[.int .i64 a0_0, (.slice (some ad120) l0_1.length c0_1)] 30 (0, 0))) ∧ Aside0 (w'.heap[gb121]? = some (.cells #[.int .i64 ((rd_T41 l0_1 a1).f0), .int .i64 ((rd_T41 l0_1 a1).f1), .string ((rd_T41 l0_1 a1).f2), .string ((rd_T41 l0_1 a1).f3), .int .i64 ((rd_T41 l0_1 a1).f4), .int .i64 ((rd_T41 l0_1 a1).f5), .bool ((rd_T41 l0_1 a1).f6)] 41 (0, 0))) ∧ Aside0 (Kept w w' (fun k_ => P3_ k_)) ∧ Aside0 (Below w0.heap.size w0 w'))
      case atStart => exact ⟨(a2), (l3), (by first | rfl | (simp; done) | (simp [*]; done)), H', ⟨Nat.le_refl _⟩, ⟨by (with_reducible repeat (first | apply Kd.R_alloc | apply Kd.R_drewN | apply Kd.R_drew)); exact Kd.R_mono (Kd.R_far (p := ⟨gb121, 6, none⟩) (Kd.R_far (p := ⟨gb121, 5, none⟩) (Kd.R_far (p := ⟨gb121, 4, none⟩) (Kd.R_far (p := ⟨gb121, 3, none⟩) (Kd.R_far (p := ⟨gb121, 2, none⟩) (Kd.R_far (p := ⟨gb121, 1, none⟩) (Kd.R_far (p := ⟨gb121, 0, none⟩) (Kd.R_types HO3.out BK121.out (by decide)) (fun _ hk => hk.2) (.int .i64 ((rd_T41 l0_1 a1).f0))) (fun _ hk => hk.2) (.int .i64 ((rd_T41 l0_1 a1).f1))) (fun _ hk => hk.2) (.string ((rd_T41 l0_1 a1).f2))) (fun _ hk => hk.2) (.string ((rd_T41 l0_1 a1).f3))) (fun _ hk => hk.2) (.int .i64 ((rd_T41 l0_1 a1).f4))) (fun _ hk => hk.2) (.int .i64 ((rd_T41 l0_1 a1).f5))) (fun _ hk => hk.2) (.bool ((rd_T41 l0_1 a1).f6))) (fun _ hk => hk.1)⟩, ⟨by (with_reducible repeat (first | refine blk_drewN ?_ _ | refine blk_drew ?_ | refine blk_alloc ?_ _)); refine blk_far ?_ NB119_121.out _; (with_reducible repeat (first | refine blk_drewN ?_ _ | refine blk_drew ?_ | refine blk_alloc ?_ _)); refine blk_far ?_ NB119_121.out _; (with_reducible repeat (first | refine blk_drewN ?_ _ | refine blk_drew ?_ | refine blk_alloc ?_ _)); refine blk_far ?_ NB119_121.out _; (with_reducible repeat (first | refine blk_drewN ?_ _ | refine blk_drew ?_ | refine blk_alloc ?_ _)); refine blk_far ?_ NB119_121.out _; (with_reducible repeat (first | refine blk_drewN ?_ _ | refine blk_drew ?_ | refine blk_alloc ?_ _)); refine blk_far ?_ NB119_121.out _; (with_reducible repeat (first | refine blk_drewN ?_ _ | refine blk_drew ?_ | refine blk_alloc ?_ _)); refine blk_far ?_ NB119_121.out _; (with_reducible repeat (first | refine blk_drewN ?_ _ | refine blk_drew ?_ | refine blk_alloc ?_ _)); refine blk_far ?_ NB119_121.out _; (with_reducible repeat (first | refine blk_drewN ?_ _ | refine blk_drew ?_ | refine blk_alloc ?_ _)); exact BK119.out⟩, ⟨by (with_reducible repeat (first | refine blk_drewN ?_ _ | refine blk_drew ?_ | refine blk_alloc ?_ _)); refine blk_put (cs := #[.int .i64 ((rd_T41 l0_1 a1).f0), .int .i64 ((rd_T41 l0_1 a1).f1), .string ((rd_T41 l0_1 a1).f2), .string ((rd_T41 l0_1 a1).f3), .int .i64 ((rd_T41 l0_1 a1).f4), .int .i64 ((rd_T41 l0_1 a1).f5), .bool false]) ?_ 6 _ rfl; (with_reducible repeat (first | refine blk_drewN ?_ _ | refine blk_drew ?_ | refine blk_alloc ?_ _)); refine blk_put (cs := #[.int .i64 ((rd_T41 l0_1 a1).f0), .int .i64 ((rd_T41 l0_1 a1).f1), .string ((rd_T41 l0_1 a1).f2), .string ((rd_T41 l0_1 a1).f3), .int .i64 ((rd_T41 l0_1 a1).f4), .int .i64 0, .bool false]) ?_ 5 _ rfl; (with_reducible repeat (first | refine blk_drewN ?_ _ | refine blk_drew ?_ | refine blk_alloc ?_ _)); refine blk_put (cs := #[.int .i64 ((rd_T41 l0_1 a1).f0), .int .i64 ((rd_T41 l0_1 a1).f1), .string ((rd_T41 l0_1 a1).f2), .string ((rd_T41 l0_1 a1).f3), .int .i64 0, .int .i64 0, .bool false]) ?_ 4 _ rfl; (with_reducible repeat (first | refine blk_drewN ?_ _ | refine blk_drew ?_ | refine blk_alloc ?_ _)); refine blk_put (cs := #[.int .i64 ((rd_T41 l0_1 a1).f0), .int .i64 ((rd_T41 l0_1 a1).f1), .string ((rd_T41 l0_1 a1).f2), .string (⟨#[]⟩ : ByteArray), .int .i64 0, .int .i64 0, .bool false]) ?_ 3 _ rfl; (with_reducible repeat (first | refine blk_drewN ?_ _ | refine blk_drew ?_ | refine blk_alloc ?_ _)); refine blk_put (cs := #[.int .i64 ((rd_T41 l0_1 a1).f0), .int .i64 ((rd_T41 l0_1 a1).f1), .string (⟨#[]⟩ : ByteArray), .string (⟨#[]⟩ : ByteArray), .int .i64 0, .int .i64 0, .bool false]) ?_ 2 _ rfl; (with_reducible repeat (first | refine blk_drewN ?_ _ | refine blk_drew ?_ | refine blk_alloc ?_ _)); refine blk_put (cs := #[.int .i64 ((rd_T41 l0_1 a1).f0), .int .i64 0, .string (⟨#[]⟩ : ByteArray), .string (⟨#[]⟩ : ByteArray), .int .i64 0, .int .i64 0, .bool false]) ?_ 1 _ rfl; (with_reducible repeat (first | refine blk_drewN ?_ _ | refine blk_drew ?_ | refine blk_alloc ?_ _)); refine blk_put (cs := #[.int .i64 0, .int .i64 0, .string (⟨#[]⟩ : ByteArray), .string (⟨#[]⟩ : ByteArray), .int .i64 0, .int .i64 0, .bool false]) ?_ 0 _ rfl; (with_reducible repeat (first | refine blk_drewN ?_ _ | refine blk_drew ?_ | refine blk_alloc ?_ _)); exact BK121.out⟩, ⟨by repeat (first | (with_reducible first | exact HK.out | apply Kept.alloc | apply Kept.drewN | apply Kept.drew | refine Kept.setCell ?_ (.inr GW119.out) _ | refine Kept.setCell ?_ (.inr GW121.out) _) | exact HK.out)⟩, ⟨by repeat (first | (with_reducible first | exact HB.out | apply below_alloc | apply pw_below_drewN | apply below_drew1 | refine below_set ?_ GE119.out | refine below_set ?_ GE121.out) | exact HB.out)⟩⟩
      case round =>
        clear H'
        try clear c1
        try clear p1
        try clear q1
        try clear hx1
        try clear p2
        try clear c5
        try clear c5b0
        try clear c6
        try clear c6b0
        try clear c10
        try clear hcz11_0
        try clear hcz11_1
        try clear hcz11_2
        try clear hcz11_3
        try clear hcz11_4
        try clear hcz11_5
        try clear hcz11_6
        try clear hcz8_0
        try clear hcz8_1
        try clear hfz11_0
        try clear hfz11_1
        try clear hfz11_2
        try clear hfz11_3
        try clear hfz11_4
        try clear hfz11_5
        try clear hfz11_6
        try clear hfz8_0
        try clear hfz8_1
        try clear hx120_0
        try clear hx120_1
        try clear hx120_2
        try clear hx120_3
        try clear hx120_4
        try clear hx120_5
        try clear hx120_6
        try clear p120
        try clear q120
        obtain ⟨x2_1, x3_1, rfl, HA, HK1, HO_3, BK119, BK121, HK, HB⟩ := hrel
        cases gk with
        | zero => exact absurd HA.out (by simp [spec_l23Path.l0])
        | succ k1 =>
          have H := HA.out
          clear HA
          simp only [spec_l23Path.l0] at H
          have H' := Aside0.mk H
          clear H
          have hnb12 := NB119_121.out
          have hnc12 := NB121_119.out
          have hcz13_0 : wr.cell? ⟨gb119, 0, none⟩ = some (.int .i64 a0_0) := (blk_cell BK119.out 0).trans rfl
          have hcz13_1 : wr.cell? ⟨gb119, 1, none⟩ = some (.slice (some ad120) l0_1.length c0_1) := (blk_cell BK119.out 1).trans rfl
          have hfz13_0 := blk_frozen BK119.out 0
          have hfz13_1 := blk_frozen BK119.out 1
          go_wp2
          go_loopg [10, 11, 24] k1 (fun kq v10 v11 v24 w' => ∃ (x10_2 : Int) (x11_2 : Int) (x24_2 : Int), v10 = .int .i64 x10_2 ∧ v11 = .int .i64 x11_2 ∧ v24 = .int .i64 x24_2 ∧ Aside0 (spec_l23Path.l1 kq x2_1 x3_1 x10_2 x11_2 l0_1 (l0_1.length : Int) x24_2 a0_0 l0_1 ((rd_T41 l0_1 a1).f0) ((rd_T41 l0_1 a1).f1) ((rd_T41 l0_1 a1).f2) ((rd_T41 l0_1 a1).f3) ((rd_T41 l0_1 a1).f4) ((rd_T41 l0_1 a1).f5) ((rd_T41 l0_1 a1).f6) = some r) ∧ Aside0 (kq ≤ k1) ∧ Aside0 (Kd.R k43 43 w' w0.heap.size (fun k_ => (P3_ k_ ∨ w.heap.size ≤ k_)) u3 x3_1) ∧ Aside0 (w'.heap[gb119]? = some (.cells #[.int .i64 a0_0, (.slice (some ad120) l0_1.length c0_1)] 30 (0, 0))) ∧ Aside0 (w'.heap[gb121]? = some (.cells #[.int .i64 ((rd_T41 l0_1 a1).f0), .int .i64 ((rd_T41 l0_1 a1).f1), .string ((rd_T41 l0_1 a1).f2), .string ((rd_T41 l0_1 a1).f3), .int .i64 ((rd_T41 l0_1 a1).f4), .int .i64 ((rd_T41 l0_1 a1).f5), .bool ((rd_T41 l0_1 a1).f6)] 41 (0, 0))) ∧ Aside0 (Kept w w' (fun k_ => P3_ k_)) ∧ Aside0 (Below w0.heap.size w0 w'))
          case atStart => exact ⟨((-1)), (0), (0), (by first | rfl | (simp; done) | (simp [*]; done)), (by first | rfl | (simp; done) | (simp [*]; done)), (by first | rfl | (simp; done) | (simp [*]; done)), H', ⟨Nat.le_refl _⟩, ⟨by (with_reducible repeat (first | apply Kd.R_alloc | apply Kd.R_drewN | apply Kd.R_drew)); exact HO_3.out⟩, ⟨by (with_reducible repeat (first | refine blk_drewN ?_ _ | refine blk_drew ?_ | refine blk_alloc ?_ _)); exact BK119.out⟩, ⟨by (with_reducible repeat (first | refine blk_drewN ?_ _ | refine blk_drew ?_ | refine blk_alloc ?_ _)); exact BK121.out⟩, ⟨by repeat (first | (with_reducible first | exact HK.out | apply Kept.alloc | apply Kept.drewN | apply Kept.drew | refine Kept.setCell ?_ (.inr GW119.out) _ | refine Kept.setCell ?_ (.inr GW121.out) _) | exact HK.out)⟩, ⟨by repeat (first | (with_reducible first | exact HB.out | apply below_alloc | apply pw_below_drewN | apply below_drew1 | refine below_set ?_ GE119.out | refine below_set ?_ GE121.out) | exact HB.out)⟩⟩
          case round =>
            clear H'
            try clear c1
            try clear p1
            try clear q1
            try clear hx1
            try clear p2
            try clear c5
            try clear c5b0
            try clear c6
            try clear c6b0
            try clear c10
            try clear c12
            try clear p12
            try clear q12
            try clear hx12
            try clear hcz11_0
            try clear hcz11_1
            try clear hcz11_2
            try clear hcz11_3
            try clear hcz11_4
            try clear hcz11_5
            try clear hcz11_6
            try clear hcz13_0
            try clear hcz13_1
            try clear hcz8_0
            try clear hcz8_1
            try clear hfz11_0
            try clear hfz11_1
            try clear hfz11_2
            try clear hfz11_3
            try clear hfz11_4
            try clear hfz11_5
            try clear hfz11_6
            try clear hfz13_0
            try clear hfz13_1
            try clear hfz8_0
            try clear hfz8_1
            try clear hx120_0
            try clear hx120_1
            try clear hx120_2
            try clear hx120_3
            try clear hx120_4
            try clear hx120_5
            try clear hx120_6
            try clear p1
            try clear p120
            try clear p2
            try clear q1
            try clear q120
            obtain ⟨x10_2, x11_2, x24_2, rfl, rfl, rfl, HA, HK2, HO_3, BK119, BK121, HK, HB⟩ := hrel
            cases gk with
            | zero => exact absurd HA.out (by simp [spec_l23Path.l1])
            | succ k2 =>
              have H := HA.out
              clear HA
              simp only [spec_l23Path.l1] at H
              by_cases c14 : x24_2 < (l0_1.length : Int)
              · rw [if_pos c14] at H
                have c14b0 : decide (x24_2 < (l0_1.length : Int)) = true := decide_eq_true c14
                clear c14
                by_cases c15 : 0 ≤ x24_2
                · rw [if_pos c15] at H
                  have c15b0 : decide (0 ≤ x24_2) = true := decide_eq_true c15
                  clear c15
                  by_cases c16 : x24_2 < (l0_1.length : Int)
                  · rw [if_pos c16] at H
                    have c16b0 : decide (x24_2 < (l0_1.length : Int)) = true := decide_eq_true c16
                    clear c16
                    have HC17 := Aside0.mk H
                    clear H
                    have p122 : 0 ≤ (x24_2 : Int) := of_decide_eq_true (by first | (with_reducible assumption) | assumption)
                    have q122 : x24_2 < (l0_1.length : Int) := of_decide_eq_true (by first | (with_reducible assumption) | assumption)
                    obtain ⟨ad122, e122, hx122_0, hx122_1, hx122_2, hx122_3, hx122_4, hx122_5, hx122_6⟩ := at_T41 (Kd.C_kept_now HR0_1.out HK.out) x24_2 p122 q122
                    obtain rfl : ad120 = ad122 := (by injection e122)
                    replace p122 := eq_true p122
                    replace q122 := eq_true q122
                    go_upto_region 7 with (first | ((with_reducible refine gate_dst (N := 13) rfl ?_); refine box_event ?hg (N := 13) ?hd (cs := #[.int .i64 0, .int .i64 0, .string (⟨#[]⟩ : ByteArray), .string (⟨#[]⟩ : ByteArray), .int .i64 0, .int .i64 0, .bool false]) (t := 41) ?hr ?_; (case hd => rfl); (case hg => rfl); (case hr => first | (go_simp; done) | (go_simp; rfl)); intro gb123 hg w18 hbox hb; have n0_ := Aside0.mk (Kd.R_below (by (with_reducible repeat (first | apply Kd.R_alloc | apply Kd.R_drewN | apply Kd.R_drew)); exact HO_3.out) hb); have n1_ := Aside0.mk (blk_below (g := gb119) (o := .cells #[.int .i64 a0_0, .slice (some ad120) l0_1.length c0_1] 30 (0, 0)) (by (with_reducible repeat (first | refine blk_drewN ?_ _ | refine blk_drew ?_ | refine blk_alloc ?_ _)); exact BK119.out) hb); have n2_ := Aside0.mk (blk_below (g := gb121) (o := .cells #[.int .i64 ((rd_T41 l0_1 a1).f0), .int .i64 ((rd_T41 l0_1 a1).f1), .string ((rd_T41 l0_1 a1).f2), .string ((rd_T41 l0_1 a1).f3), .int .i64 ((rd_T41 l0_1 a1).f4), .int .i64 ((rd_T41 l0_1 a1).f5), .bool ((rd_T41 l0_1 a1).f6)] 41 (0, 0)) (by (with_reducible repeat (first | refine blk_drewN ?_ _ | refine blk_drew ?_ | refine blk_alloc ?_ _)); exact BK121.out) hb); have n3_ := Aside0.mk (Kept.below (S := (fun k_ => P3_ k_)) (by repeat (first | (with_reducible first | exact HK.out | apply Kept.alloc | apply Kept.drewN | apply Kept.drew | refine Kept.setCell ?_ (.inr GW119.out) _ | refine Kept.setCell ?_ (.inr GW121.out) _) | exact HK.out)) hb); have n4_ := Aside0.mk (below_step (by repeat (first | (with_reducible first | exact HB.out | apply below_alloc | apply pw_below_drewN | apply below_drew1 | refine below_set ?_ GE119.out | refine below_set ?_ GE121.out) | exact HB.out)) hb); have n5_ := Aside0.mk (hbox); have n6_ := Aside0.mk ((by rw [hg]; exact (by first | exact HK.out.1 | exact (show Kept w _ (fun k_ => P3_ k_) from by repeat (first | (with_reducible first | exact HK.out | apply Kept.alloc | apply Kept.drewN | apply Kept.drew | refine Kept.setCell ?_ (.inr GW119.out) _ | refine Kept.setCell ?_ (.inr GW121.out) _) | exact HK.out)).1) : w.heap.size ≤ gb123)); have n7_ := Aside0.mk ((by rw [hg]; exact (below_size (by repeat (first | (with_reducible first | exact HB.out | apply below_alloc | apply pw_below_drewN | apply below_drew1 | refine below_set ?_ GE119.out | refine below_set ?_ GE121.out) | exact HB.out))) : w0.heap.size ≤ gb123)); have n8_ := Aside0.mk ((by rw [hg]; exact Nat.ne_of_lt (blk_lt (g := gb119) (o := .cells #[.int .i64 a0_0, .slice (some ad120) l0_1.length c0_1] 30 (0, 0)) (by (with_reducible repeat (first | refine blk_drewN ?_ _ | refine blk_drew ?_ | refine blk_alloc ?_ _)); exact BK119.out)) : gb119 ≠ gb123)); have n9_ := Aside0.mk ((by rw [hg]; exact Nat.ne_of_gt (blk_lt (g := gb119) (o := .cells #[.int .i64 a0_0, .slice (some ad120) l0_1.length c0_1] 30 (0, 0)) (by (with_reducible repeat (first | refine blk_drewN ?_ _ | refine blk_drew ?_ | refine blk_alloc ?_ _)); exact BK119.out)) : gb123 ≠ gb119)); have n10_ := Aside0.mk ((by rw [hg]; exact Nat.ne_of_lt (blk_lt (g := gb121) (o := .cells #[.int .i64 ((rd_T41 l0_1 a1).f0), .int .i64 ((rd_T41 l0_1 a1).f1), .string ((rd_T41 l0_1 a1).f2), .string ((rd_T41 l0_1 a1).f3), .int .i64 ((rd_T41 l0_1 a1).f4), .int .i64 ((rd_T41 l0_1 a1).f5), .bool ((rd_T41 l0_1 a1).f6)] 41 (0, 0)) (by (with_reducible repeat (first | refine blk_drewN ?_ _ | refine blk_drew ?_ | refine blk_alloc ?_ _)); exact BK121.out)) : gb121 ≠ gb123)); have n11_ := Aside0.mk ((by rw [hg]; exact Nat.ne_of_gt (blk_lt (g := gb121) (o := .cells #[.int .i64 ((rd_T41 l0_1 a1).f0), .int .i64 ((rd_T41 l0_1 a1).f1), .string ((rd_T41 l0_1 a1).f2), .string ((rd_T41 l0_1 a1).f3), .int .i64 ((rd_T41 l0_1 a1).f4), .int .i64 ((rd_T41 l0_1 a1).f5), .bool ((rd_T41 l0_1 a1).f6)] 41 (0, 0)) (by (with_reducible repeat (first | refine blk_drewN ?_ _ | refine blk_drew ?_ | refine blk_alloc ?_ _)); exact BK121.out)) : gb123 ≠ gb121)); clear HO_3; clear BK119; clear BK121; clear HK; clear HB; have HO_3 := n0_; have BK119 := n1_; have BK121 := n2_; have HK := n3_; have HB := n4_; have BK123 := n5_; have GW123 := n6_; have GE123 := n7_; have NB119_123 := n8_; have NB123_119 := n9_; have NB121_123 := n10_; have NB123_121 := n11_; clear n0_ n1_ n2_ n3_ n4_ n5_ n6_ n7_ n8_ n9_ n10_ n11_; clear hb hbox hg; have hnb19 := NB123_119.out; have hnc19 := NB119_123.out; have hnb20 := NB123_121.out; have hnc20 := NB121_123.out; have hcz21_0 : w18.cell? ⟨gb123, 0, none⟩ = some (.int .i64 0) := (blk_cell BK123.out 0).trans rfl; have hcz21_1 : w18.cell? ⟨gb123, 1, none⟩ = some (.int .i64 0) := (blk_cell BK123.out 1).trans rfl; have hcz21_2 : w18.cell? ⟨gb123, 2, none⟩ = some (.string (⟨#[]⟩ : ByteArray)) := (blk_cell BK123.out 2).trans rfl; have hcz21_3 : w18.cell? ⟨gb123, 3, none⟩ = some (.string (⟨#[]⟩ : ByteArray)) := (blk_cell BK123.out 3).trans rfl; have hcz21_4 : w18.cell? ⟨gb123, 4, none⟩ = some (.int .i64 0) := (blk_cell BK123.out 4).trans rfl; have hcz21_5 : w18.cell? ⟨gb123, 5, none⟩ = some (.int .i64 0) := (blk_cell BK123.out 5).trans rfl; have hcz21_6 : w18.cell? ⟨gb123, 6, none⟩ = some (.bool false) := (blk_cell BK123.out 6).trans rfl; have hfz21_0 := blk_frozen BK123.out 0; have hfz21_1 := blk_frozen BK123.out 1; have hfz21_2 := blk_frozen BK123.out 2; have hfz21_3 := blk_frozen BK123.out 3; have hfz21_4 := blk_frozen BK123.out 4; have hfz21_5 := blk_frozen BK123.out 5; have hfz21_6 := blk_frozen BK123.out 6))
                    (try simp only [Act.put, List.setIfInBounds_toArray, List.set_cons_zero, List.set_cons_succ])
                    go_cut [46] (fun v46 wc => ∃ (kq : Nat) (x46_16 : Bool), v46 = .bool x46_16 ∧ Aside0 (spec_l23Path.j2 kq x2_1 x3_1 x10_2 x11_2 x24_2 l0_1 (l0_1.length : Int) x24_2 x46_16 a0_0 l0_1 ((rd_T41 l0_1 a1).f0) ((rd_T41 l0_1 a1).f1) ((rd_T41 l0_1 a1).f2) ((rd_T41 l0_1 a1).f3) ((rd_T41 l0_1 a1).f4) ((rd_T41 l0_1 a1).f5) ((rd_T41 l0_1 a1).f6) ((rd_T41 l0_1 x24_2).f0) ((rd_T41 l0_1 x24_2).f1) ((rd_T41 l0_1 x24_2).f2) ((rd_T41 l0_1 x24_2).f3) ((rd_T41 l0_1 x24_2).f4) ((rd_T41 l0_1 x24_2).f5) ((rd_T41 l0_1 x24_2).f6) = some r) ∧ Aside0 (kq ≤ k2) ∧ Aside0 (Kd.R k43 43 wc w0.heap.size (fun k_ => (P3_ k_ ∨ w.heap.size ≤ k_)) u3 x3_1) ∧ Aside0 (wc.heap[gb119]? = some (.cells #[.int .i64 a0_0, (.slice (some ad120) l0_1.length c0_1)] 30 (0, 0))) ∧ Aside0 (wc.heap[gb121]? = some (.cells #[.int .i64 ((rd_T41 l0_1 a1).f0), .int .i64 ((rd_T41 l0_1 a1).f1), .string ((rd_T41 l0_1 a1).f2), .string ((rd_T41 l0_1 a1).f3), .int .i64 ((rd_T41 l0_1 a1).f4), .int .i64 ((rd_T41 l0_1 a1).f5), .bool ((rd_T41 l0_1 a1).f6)] 41 (0, 0))) ∧ Aside0 (wc.heap[gb123]? = some (.cells #[.int .i64 ((rd_T41 l0_1 x24_2).f0), .int .i64 ((rd_T41 l0_1 x24_2).f1), .string ((rd_T41 l0_1 x24_2).f2), .string ((rd_T41 l0_1 x24_2).f3), .int .i64 ((rd_T41 l0_1 x24_2).f4), .int .i64 ((rd_T41 l0_1 x24_2).f5), .bool ((rd_T41 l0_1 x24_2).f6)] 41 (0, 0))) ∧ Aside0 (Kept w wc (fun k_ => P3_ k_)) ∧ Aside0 (Below w0.heap.size w0 wc))
                    case first =>
                      have H := HC17.out
                      clear HC17
                      by_cases c22 : ((rd_T41 l0_1 x24_2).f1) = ((rd_T41 l0_1 a1).f0)
                      · rw [if_pos c22] at H
                        have c22b0 : (((rd_T41 l0_1 x24_2).f1) == ((rd_T41 l0_1 a1).f0)) = true := beq_iff_eq.mpr c22
                        have c22b1 : (((rd_T41 l0_1 x24_2).f1) != ((rd_T41 l0_1 a1).f0)) = false := bne_eq_false_iff_eq.mpr c22
                        clear c22
                        (first | rw [c22b0] | (simp only [i64_w, i32_w]; rw [c22b0]) | skip)
                        by_cases c23 : ((rd_T41 l0_1 x24_2).f5) ≤ ((rd_T41 l0_1 x24_2).f4)
                        · rw [if_pos c23] at H
                          have c23b0 : decide (((rd_T41 l0_1 x24_2).f5) ≤ ((rd_T41 l0_1 x24_2).f4)) = true := decide_eq_true c23
                          clear c23
                          have H' := Aside0.mk H
                          clear H
                          have hnb24 := NB123_119.out
                          have hnc24 := NB119_123.out
                          have hnb25 := NB123_121.out
                          have hnc25 := NB121_123.out
                          have hcz26_0 : w18.cell? ⟨gb123, 0, none⟩ = some (.int .i64 0) := (blk_cell BK123.out 0).trans rfl
                          have hcz26_1 : w18.cell? ⟨gb123, 1, none⟩ = some (.int .i64 0) := (blk_cell BK123.out 1).trans rfl
                          have hcz26_2 : w18.cell? ⟨gb123, 2, none⟩ = some (.string (⟨#[]⟩ : ByteArray)) := (blk_cell BK123.out 2).trans rfl
                          have hcz26_3 : w18.cell? ⟨gb123, 3, none⟩ = some (.string (⟨#[]⟩ : ByteArray)) := (blk_cell BK123.out 3).trans rfl
                          have hcz26_4 : w18.cell? ⟨gb123, 4, none⟩ = some (.int .i64 0) := (blk_cell BK123.out 4).trans rfl
                          have hcz26_5 : w18.cell? ⟨gb123, 5, none⟩ = some (.int .i64 0) := (blk_cell BK123.out 5).trans rfl
                          have hcz26_6 : w18.cell? ⟨gb123, 6, none⟩ = some (.bool false) := (blk_cell BK123.out 6).trans rfl
                          have hfz26_0 := blk_frozen BK123.out 0
                          have hfz26_1 := blk_frozen BK123.out 1
                          have hfz26_2 := blk_frozen BK123.out 2
                          have hfz26_3 := blk_frozen BK123.out 3
                          have hfz26_4 := blk_frozen BK123.out 4
                          have hfz26_5 := blk_frozen BK123.out 5
                          have hfz26_6 := blk_frozen BK123.out 6
                          have hnb27 := NB121_119.out
                          have hnc27 := NB119_121.out
                          have hcz28_0 : w18.cell? ⟨gb121, 0, none⟩ = some (.int .i64 ((rd_T41 l0_1 a1).f0)) := (blk_cell BK121.out 0).trans rfl
                          have hcz28_1 : w18.cell? ⟨gb121, 1, none⟩ = some (.int .i64 ((rd_T41 l0_1 a1).f1)) := (blk_cell BK121.out 1).trans rfl
                          have hcz28_2 : w18.cell? ⟨gb121, 2, none⟩ = some (.string ((rd_T41 l0_1 a1).f2)) := (blk_cell BK121.out 2).trans rfl
                          have hcz28_3 : w18.cell? ⟨gb121, 3, none⟩ = some (.string ((rd_T41 l0_1 a1).f3)) := (blk_cell BK121.out 3).trans rfl
                          have hcz28_4 : w18.cell? ⟨gb121, 4, none⟩ = some (.int .i64 ((rd_T41 l0_1 a1).f4)) := (blk_cell BK121.out 4).trans rfl
                          have hcz28_5 : w18.cell? ⟨gb121, 5, none⟩ = some (.int .i64 ((rd_T41 l0_1 a1).f5)) := (blk_cell BK121.out 5).trans rfl
                          have hcz28_6 : w18.cell? ⟨gb121, 6, none⟩ = some (.bool ((rd_T41 l0_1 a1).f6)) := (blk_cell BK121.out 6).trans rfl
                          have hfz28_0 := blk_frozen BK121.out 0
                          have hfz28_1 := blk_frozen BK121.out 1
                          have hfz28_2 := blk_frozen BK121.out 2
                          have hfz28_3 := blk_frozen BK121.out 3
                          have hfz28_4 := blk_frozen BK121.out 4
                          have hfz28_5 := blk_frozen BK121.out 5
                          have hfz28_6 := blk_frozen BK121.out 6
                          go_wp2
                          go_meet
                          case rel => exact ⟨_, (true), (by first | rfl | (simp; done) | (simp [*]; done)), H', ⟨by have := HK1.out; have := HK2.out; first | omega | exact Nat.le_refl _⟩, ⟨by (with_reducible repeat (first | apply Kd.R_alloc | apply Kd.R_drewN | apply Kd.R_drew)); exact Kd.R_mono (Kd.R_far (p := ⟨gb123, 6, none⟩) (Kd.R_far (p := ⟨gb123, 5, none⟩) (Kd.R_far (p := ⟨gb123, 4, none⟩) (Kd.R_far (p := ⟨gb123, 3, none⟩) (Kd.R_far (p := ⟨gb123, 2, none⟩) (Kd.R_far (p := ⟨gb123, 1, none⟩) (Kd.R_far (p := ⟨gb123, 0, none⟩) (Kd.R_types HO_3.out BK123.out (by decide)) (fun _ hk => hk.2) (.int .i64 ((rd_T41 l0_1 x24_2).f0))) (fun _ hk => hk.2) (.int .i64 ((rd_T41 l0_1 x24_2).f1))) (fun _ hk => hk.2) (.string ((rd_T41 l0_1 x24_2).f2))) (fun _ hk => hk.2) (.string ((rd_T41 l0_1 x24_2).f3))) (fun _ hk => hk.2) (.int .i64 ((rd_T41 l0_1 x24_2).f4))) (fun _ hk => hk.2) (.int .i64 ((rd_T41 l0_1 x24_2).f5))) (fun _ hk => hk.2) (.bool ((rd_T41 l0_1 x24_2).f6))) (fun _ hk => hk.1)⟩, ⟨by (with_reducible repeat (first | refine blk_drewN ?_ _ | refine blk_drew ?_ | refine blk_alloc ?_ _)); refine blk_far ?_ NB119_123.out _; (with_reducible repeat (first | refine blk_drewN ?_ _ | refine blk_drew ?_ | refine blk_alloc ?_ _)); refine blk_far ?_ NB119_123.out _; (with_reducible repeat (first | refine blk_drewN ?_ _ | refine blk_drew ?_ | refine blk_alloc ?_ _)); refine blk_far ?_ NB119_123.out _; (with_reducible repeat (first | refine blk_drewN ?_ _ | refine blk_drew ?_ | refine blk_alloc ?_ _)); refine blk_far ?_ NB119_123.out _; (with_reducible repeat (first | refine blk_drewN ?_ _ | refine blk_drew ?_ | refine blk_alloc ?_ _)); refine blk_far ?_ NB119_123.out _; (with_reducible repeat (first | refine blk_drewN ?_ _ | refine blk_drew ?_ | refine blk_alloc ?_ _)); refine blk_far ?_ NB119_123.out _; (with_reducible repeat (first | refine blk_drewN ?_ _ | refine blk_drew ?_ | refine blk_alloc ?_ _)); refine blk_far ?_ NB119_123.out _; (with_reducible repeat (first | refine blk_drewN ?_ _ | refine blk_drew ?_ | refine blk_alloc ?_ _)); exact BK119.out⟩, ⟨by (with_reducible repeat (first | refine blk_drewN ?_ _ | refine blk_drew ?_ | refine blk_alloc ?_ _)); refine blk_far ?_ NB121_123.out _; (with_reducible repeat (first | refine blk_drewN ?_ _ | refine blk_drew ?_ | refine blk_alloc ?_ _)); refine blk_far ?_ NB121_123.out _; (with_reducible repeat (first | refine blk_drewN ?_ _ | refine blk_drew ?_ | refine blk_alloc ?_ _)); refine blk_far ?_ NB121_123.out _; (with_reducible repeat (first | refine blk_drewN ?_ _ | refine blk_drew ?_ | refine blk_alloc ?_ _)); refine blk_far ?_ NB121_123.out _; (with_reducible repeat (first | refine blk_drewN ?_ _ | refine blk_drew ?_ | refine blk_alloc ?_ _)); refine blk_far ?_ NB121_123.out _; (with_reducible repeat (first | refine blk_drewN ?_ _ | refine blk_drew ?_ | refine blk_alloc ?_ _)); refine blk_far ?_ NB121_123.out _; (with_reducible repeat (first | refine blk_drewN ?_ _ | refine blk_drew ?_ | refine blk_alloc ?_ _)); refine blk_far ?_ NB121_123.out _; (with_reducible repeat (first | refine blk_drewN ?_ _ | refine blk_drew ?_ | refine blk_alloc ?_ _)); exact BK121.out⟩, ⟨by (with_reducible repeat (first | refine blk_drewN ?_ _ | refine blk_drew ?_ | refine blk_alloc ?_ _)); refine blk_put (cs := #[.int .i64 ((rd_T41 l0_1 x24_2).f0), .int .i64 ((rd_T41 l0_1 x24_2).f1), .string ((rd_T41 l0_1 x24_2).f2), .string ((rd_T41 l0_1 x24_2).f3), .int .i64 ((rd_T41 l0_1 x24_2).f4), .int .i64 ((rd_T41 l0_1 x24_2).f5), .bool false]) ?_ 6 _ rfl; (with_reducible repeat (first | refine blk_drewN ?_ _ | refine blk_drew ?_ | refine blk_alloc ?_ _)); refine blk_put (cs := #[.int .i64 ((rd_T41 l0_1 x24_2).f0), .int .i64 ((rd_T41 l0_1 x24_2).f1), .string ((rd_T41 l0_1 x24_2).f2), .string ((rd_T41 l0_1 x24_2).f3), .int .i64 ((rd_T41 l0_1 x24_2).f4), .int .i64 0, .bool false]) ?_ 5 _ rfl; (with_reducible repeat (first | refine blk_drewN ?_ _ | refine blk_drew ?_ | refine blk_alloc ?_ _)); refine blk_put (cs := #[.int .i64 ((rd_T41 l0_1 x24_2).f0), .int .i64 ((rd_T41 l0_1 x24_2).f1), .string ((rd_T41 l0_1 x24_2).f2), .string ((rd_T41 l0_1 x24_2).f3), .int .i64 0, .int .i64 0, .bool false]) ?_ 4 _ rfl; (with_reducible repeat (first | refine blk_drewN ?_ _ | refine blk_drew ?_ | refine blk_alloc ?_ _)); refine blk_put (cs := #[.int .i64 ((rd_T41 l0_1 x24_2).f0), .int .i64 ((rd_T41 l0_1 x24_2).f1), .string ((rd_T41 l0_1 x24_2).f2), .string (⟨#[]⟩ : ByteArray), .int .i64 0, .int .i64 0, .bool false]) ?_ 3 _ rfl; (with_reducible repeat (first | refine blk_drewN ?_ _ | refine blk_drew ?_ | refine blk_alloc ?_ _)); refine blk_put (cs := #[.int .i64 ((rd_T41 l0_1 x24_2).f0), .int .i64 ((rd_T41 l0_1 x24_2).f1), .string (⟨#[]⟩ : ByteArray), .string (⟨#[]⟩ : ByteArray), .int .i64 0, .int .i64 0, .bool false]) ?_ 2 _ rfl; (with_reducible repeat (first | refine blk_drewN ?_ _ | refine blk_drew ?_ | refine blk_alloc ?_ _)); refine blk_put (cs := #[.int .i64 ((rd_T41 l0_1 x24_2).f0), .int .i64 0, .string (⟨#[]⟩ : ByteArray), .string (⟨#[]⟩ : ByteArray), .int .i64 0, .int .i64 0, .bool false]) ?_ 1 _ rfl; (with_reducible repeat (first | refine blk_drewN ?_ _ | refine blk_drew ?_ | refine blk_alloc ?_ _)); refine blk_put (cs := #[.int .i64 0, .int .i64 0, .string (⟨#[]⟩ : ByteArray), .string (⟨#[]⟩ : ByteArray), .int .i64 0, .int .i64 0, .bool false]) ?_ 0 _ rfl; (with_reducible repeat (first | refine blk_drewN ?_ _ | refine blk_drew ?_ | refine blk_alloc ?_ _)); exact BK123.out⟩, ⟨by repeat (first | (with_reducible first | exact HK.out | apply Kept.alloc | apply Kept.drewN | apply Kept.drew | refine Kept.setCell ?_ (.inr GW119.out) _ | refine Kept.setCell ?_ (.inr GW121.out) _ | refine Kept.setCell ?_ (.inr GW123.out) _) | exact HK.out)⟩, ⟨by repeat (first | (with_reducible first | exact HB.out | apply below_alloc | apply pw_below_drewN | apply below_drew1 | refine below_set ?_ GE119.out | refine below_set ?_ GE121.out | refine below_set ?_ GE123.out) | exact HB.out)⟩⟩
                        · rw [if_neg c23] at H
                          have c23b0 : decide (((rd_T41 l0_1 x24_2).f5) ≤ ((rd_T41 l0_1 x24_2).f4)) = false := decide_eq_false c23
                          clear c23
                          have H' := Aside0.mk H
                          clear H
                          have hnb29 := NB123_119.out
                          have hnc29 := NB119_123.out
                          have hnb30 := NB123_121.out
                          have hnc30 := NB121_123.out
                          have hcz31_0 : w18.cell? ⟨gb123, 0, none⟩ = some (.int .i64 0) := (blk_cell BK123.out 0).trans rfl
                          have hcz31_1 : w18.cell? ⟨gb123, 1, none⟩ = some (.int .i64 0) := (blk_cell BK123.out 1).trans rfl
                          have hcz31_2 : w18.cell? ⟨gb123, 2, none⟩ = some (.string (⟨#[]⟩ : ByteArray)) := (blk_cell BK123.out 2).trans rfl
                          have hcz31_3 : w18.cell? ⟨gb123, 3, none⟩ = some (.string (⟨#[]⟩ : ByteArray)) := (blk_cell BK123.out 3).trans rfl
                          have hcz31_4 : w18.cell? ⟨gb123, 4, none⟩ = some (.int .i64 0) := (blk_cell BK123.out 4).trans rfl
                          have hcz31_5 : w18.cell? ⟨gb123, 5, none⟩ = some (.int .i64 0) := (blk_cell BK123.out 5).trans rfl
                          have hcz31_6 : w18.cell? ⟨gb123, 6, none⟩ = some (.bool false) := (blk_cell BK123.out 6).trans rfl
                          have hfz31_0 := blk_frozen BK123.out 0
                          have hfz31_1 := blk_frozen BK123.out 1
                          have hfz31_2 := blk_frozen BK123.out 2
                          have hfz31_3 := blk_frozen BK123.out 3
                          have hfz31_4 := blk_frozen BK123.out 4
                          have hfz31_5 := blk_frozen BK123.out 5
                          have hfz31_6 := blk_frozen BK123.out 6
                          have hnb32 := NB121_119.out
                          have hnc32 := NB119_121.out
                          have hcz33_0 : w18.cell? ⟨gb121, 0, none⟩ = some (.int .i64 ((rd_T41 l0_1 a1).f0)) := (blk_cell BK121.out 0).trans rfl
                          have hcz33_1 : w18.cell? ⟨gb121, 1, none⟩ = some (.int .i64 ((rd_T41 l0_1 a1).f1)) := (blk_cell BK121.out 1).trans rfl
                          have hcz33_2 : w18.cell? ⟨gb121, 2, none⟩ = some (.string ((rd_T41 l0_1 a1).f2)) := (blk_cell BK121.out 2).trans rfl
                          have hcz33_3 : w18.cell? ⟨gb121, 3, none⟩ = some (.string ((rd_T41 l0_1 a1).f3)) := (blk_cell BK121.out 3).trans rfl
                          have hcz33_4 : w18.cell? ⟨gb121, 4, none⟩ = some (.int .i64 ((rd_T41 l0_1 a1).f4)) := (blk_cell BK121.out 4).trans rfl
                          have hcz33_5 : w18.cell? ⟨gb121, 5, none⟩ = some (.int .i64 ((rd_T41 l0_1 a1).f5)) := (blk_cell BK121.out 5).trans rfl
                          have hcz33_6 : w18.cell? ⟨gb121, 6, none⟩ = some (.bool ((rd_T41 l0_1 a1).f6)) := (blk_cell BK121.out 6).trans rfl
                          have hfz33_0 := blk_frozen BK121.out 0
                          have hfz33_1 := blk_frozen BK121.out 1
                          have hfz33_2 := blk_frozen BK121.out 2
                          have hfz33_3 := blk_frozen BK121.out 3
                          have hfz33_4 := blk_frozen BK121.out 4
                          have hfz33_5 := blk_frozen BK121.out 5
                          have hfz33_6 := blk_frozen BK121.out 6
                          go_wp2
                          go_meet
                          case rel => exact ⟨_, (decide (((rd_T41 l0_1 x24_2).f4) ≥ x2_1)), (by first | rfl | (simp; done) | (simp [*]; done)), H', ⟨by have := HK1.out; have := HK2.out; first | omega | exact Nat.le_refl _⟩, ⟨by (with_reducible repeat (first | apply Kd.R_alloc | apply Kd.R_drewN | apply Kd.R_drew)); exact Kd.R_mono (Kd.R_far (p := ⟨gb123, 6, none⟩) (Kd.R_far (p := ⟨gb123, 5, none⟩) (Kd.R_far (p := ⟨gb123, 4, none⟩) (Kd.R_far (p := ⟨gb123, 3, none⟩) (Kd.R_far (p := ⟨gb123, 2, none⟩) (Kd.R_far (p := ⟨gb123, 1, none⟩) (Kd.R_far (p := ⟨gb123, 0, none⟩) (Kd.R_types HO_3.out BK123.out (by decide)) (fun _ hk => hk.2) (.int .i64 ((rd_T41 l0_1 x24_2).f0))) (fun _ hk => hk.2) (.int .i64 ((rd_T41 l0_1 x24_2).f1))) (fun _ hk => hk.2) (.string ((rd_T41 l0_1 x24_2).f2))) (fun _ hk => hk.2) (.string ((rd_T41 l0_1 x24_2).f3))) (fun _ hk => hk.2) (.int .i64 ((rd_T41 l0_1 x24_2).f4))) (fun _ hk => hk.2) (.int .i64 ((rd_T41 l0_1 x24_2).f5))) (fun _ hk => hk.2) (.bool ((rd_T41 l0_1 x24_2).f6))) (fun _ hk => hk.1)⟩, ⟨by (with_reducible repeat (first | refine blk_drewN ?_ _ | refine blk_drew ?_ | refine blk_alloc ?_ _)); refine blk_far ?_ NB119_123.out _; (with_reducible repeat (first | refine blk_drewN ?_ _ | refine blk_drew ?_ | refine blk_alloc ?_ _)); refine blk_far ?_ NB119_123.out _; (with_reducible repeat (first | refine blk_drewN ?_ _ | refine blk_drew ?_ | refine blk_alloc ?_ _)); refine blk_far ?_ NB119_123.out _; (with_reducible repeat (first | refine blk_drewN ?_ _ | refine blk_drew ?_ | refine blk_alloc ?_ _)); refine blk_far ?_ NB119_123.out _; (with_reducible repeat (first | refine blk_drewN ?_ _ | refine blk_drew ?_ | refine blk_alloc ?_ _)); refine blk_far ?_ NB119_123.out _; (with_reducible repeat (first | refine blk_drewN ?_ _ | refine blk_drew ?_ | refine blk_alloc ?_ _)); refine blk_far ?_ NB119_123.out _; (with_reducible repeat (first | refine blk_drewN ?_ _ | refine blk_drew ?_ | refine blk_alloc ?_ _)); refine blk_far ?_ NB119_123.out _; (with_reducible repeat (first | refine blk_drewN ?_ _ | refine blk_drew ?_ | refine blk_alloc ?_ _)); exact BK119.out⟩, ⟨by (with_reducible repeat (first | refine blk_drewN ?_ _ | refine blk_drew ?_ | refine blk_alloc ?_ _)); refine blk_far ?_ NB121_123.out _; (with_reducible repeat (first | refine blk_drewN ?_ _ | refine blk_drew ?_ | refine blk_alloc ?_ _)); refine blk_far ?_ NB121_123.out _; (with_reducible repeat (first | refine blk_drewN ?_ _ | refine blk_drew ?_ | refine blk_alloc ?_ _)); refine blk_far ?_ NB121_123.out _; (with_reducible repeat (first | refine blk_drewN ?_ _ | refine blk_drew ?_ | refine blk_alloc ?_ _)); refine blk_far ?_ NB121_123.out _; (with_reducible repeat (first | refine blk_drewN ?_ _ | refine blk_drew ?_ | refine blk_alloc ?_ _)); refine blk_far ?_ NB121_123.out _; (with_reducible repeat (first | refine blk_drewN ?_ _ | refine blk_drew ?_ | refine blk_alloc ?_ _)); refine blk_far ?_ NB121_123.out _; (with_reducible repeat (first | refine blk_drewN ?_ _ | refine blk_drew ?_ | refine blk_alloc ?_ _)); refine blk_far ?_ NB121_123.out _; (with_reducible repeat (first | refine blk_drewN ?_ _ | refine blk_drew ?_ | refine blk_alloc ?_ _)); exact BK121.out⟩, ⟨by (with_reducible repeat (first | refine blk_drewN ?_ _ | refine blk_drew ?_ | refine blk_alloc ?_ _)); refine blk_put (cs := #[.int .i64 ((rd_T41 l0_1 x24_2).f0), .int .i64 ((rd_T41 l0_1 x24_2).f1), .string ((rd_T41 l0_1 x24_2).f2), .string ((rd_T41 l0_1 x24_2).f3), .int .i64 ((rd_T41 l0_1 x24_2).f4), .int .i64 ((rd_T41 l0_1 x24_2).f5), .bool false]) ?_ 6 _ rfl; (with_reducible repeat (first | refine blk_drewN ?_ _ | refine blk_drew ?_ | refine blk_alloc ?_ _)); refine blk_put (cs := #[.int .i64 ((rd_T41 l0_1 x24_2).f0), .int .i64 ((rd_T41 l0_1 x24_2).f1), .string ((rd_T41 l0_1 x24_2).f2), .string ((rd_T41 l0_1 x24_2).f3), .int .i64 ((rd_T41 l0_1 x24_2).f4), .int .i64 0, .bool false]) ?_ 5 _ rfl; (with_reducible repeat (first | refine blk_drewN ?_ _ | refine blk_drew ?_ | refine blk_alloc ?_ _)); refine blk_put (cs := #[.int .i64 ((rd_T41 l0_1 x24_2).f0), .int .i64 ((rd_T41 l0_1 x24_2).f1), .string ((rd_T41 l0_1 x24_2).f2), .string ((rd_T41 l0_1 x24_2).f3), .int .i64 0, .int .i64 0, .bool false]) ?_ 4 _ rfl; (with_reducible repeat (first | refine blk_drewN ?_ _ | refine blk_drew ?_ | refine blk_alloc ?_ _)); refine blk_put (cs := #[.int .i64 ((rd_T41 l0_1 x24_2).f0), .int .i64 ((rd_T41 l0_1 x24_2).f1), .string ((rd_T41 l0_1 x24_2).f2), .string (⟨#[]⟩ : ByteArray), .int .i64 0, .int .i64 0, .bool false]) ?_ 3 _ rfl; (with_reducible repeat (first | refine blk_drewN ?_ _ | refine blk_drew ?_ | refine blk_alloc ?_ _)); refine blk_put (cs := #[.int .i64 ((rd_T41 l0_1 x24_2).f0), .int .i64 ((rd_T41 l0_1 x24_2).f1), .string (⟨#[]⟩ : ByteArray), .string (⟨#[]⟩ : ByteArray), .int .i64 0, .int .i64 0, .bool false]) ?_ 2 _ rfl; (with_reducible repeat (first | refine blk_drewN ?_ _ | refine blk_drew ?_ | refine blk_alloc ?_ _)); refine blk_put (cs := #[.int .i64 ((rd_T41 l0_1 x24_2).f0), .int .i64 0, .string (⟨#[]⟩ : ByteArray), .string (⟨#[]⟩ : ByteArray), .int .i64 0, .int .i64 0, .bool false]) ?_ 1 _ rfl; (with_reducible repeat (first | refine blk_drewN ?_ _ | refine blk_drew ?_ | refine blk_alloc ?_ _)); refine blk_put (cs := #[.int .i64 0, .int .i64 0, .string (⟨#[]⟩ : ByteArray), .string (⟨#[]⟩ : ByteArray), .int .i64 0, .int .i64 0, .bool false]) ?_ 0 _ rfl; (with_reducible repeat (first | refine blk_drewN ?_ _ | refine blk_drew ?_ | refine blk_alloc ?_ _)); exact BK123.out⟩, ⟨by repeat (first | (with_reducible first | exact HK.out | apply Kept.alloc | apply Kept.drewN | apply Kept.drew | refine Kept.setCell ?_ (.inr GW119.out) _ | refine Kept.setCell ?_ (.inr GW121.out) _ | refine Kept.setCell ?_ (.inr GW123.out) _) | exact HK.out)⟩, ⟨by repeat (first | (with_reducible first | exact HB.out | apply below_alloc | apply pw_below_drewN | apply below_drew1 | refine below_set ?_ GE119.out | refine below_set ?_ GE121.out | refine below_set ?_ GE123.out) | exact HB.out)⟩⟩
                      · rw [if_neg c22] at H
                        have c22b0 : (((rd_T41 l0_1 x24_2).f1) == ((rd_T41 l0_1 a1).f0)) = false := beq_eq_false_iff_ne.mpr c22
                        have c22b1 : (((rd_T41 l0_1 x24_2).f1) != ((rd_T41 l0_1 a1).f0)) = true := bne_iff_ne.mpr c22
                        (first | rw [c22b0] | (simp only [i64_w, i32_w]; rw [c22b0]) | skip)
                        have H' := Aside0.mk H
                        clear H
                        have hnb34 := NB123_119.out
                        have hnc34 := NB119_123.out
                        have hnb35 := NB123_121.out
                        have hnc35 := NB121_123.out
                        have hcz36_0 : w18.cell? ⟨gb123, 0, none⟩ = some (.int .i64 0) := (blk_cell BK123.out 0).trans rfl
                        have hcz36_1 : w18.cell? ⟨gb123, 1, none⟩ = some (.int .i64 0) := (blk_cell BK123.out 1).trans rfl
                        have hcz36_2 : w18.cell? ⟨gb123, 2, none⟩ = some (.string (⟨#[]⟩ : ByteArray)) := (blk_cell BK123.out 2).trans rfl
                        have hcz36_3 : w18.cell? ⟨gb123, 3, none⟩ = some (.string (⟨#[]⟩ : ByteArray)) := (blk_cell BK123.out 3).trans rfl
                        have hcz36_4 : w18.cell? ⟨gb123, 4, none⟩ = some (.int .i64 0) := (blk_cell BK123.out 4).trans rfl
                        have hcz36_5 : w18.cell? ⟨gb123, 5, none⟩ = some (.int .i64 0) := (blk_cell BK123.out 5).trans rfl
                        have hcz36_6 : w18.cell? ⟨gb123, 6, none⟩ = some (.bool false) := (blk_cell BK123.out 6).trans rfl
                        have hfz36_0 := blk_frozen BK123.out 0
                        have hfz36_1 := blk_frozen BK123.out 1
                        have hfz36_2 := blk_frozen BK123.out 2
                        have hfz36_3 := blk_frozen BK123.out 3
                        have hfz36_4 := blk_frozen BK123.out 4
                        have hfz36_5 := blk_frozen BK123.out 5
                        have hfz36_6 := blk_frozen BK123.out 6
                        have hnb37 := NB121_119.out
                        have hnc37 := NB119_121.out
                        have hcz38_0 : w18.cell? ⟨gb121, 0, none⟩ = some (.int .i64 ((rd_T41 l0_1 a1).f0)) := (blk_cell BK121.out 0).trans rfl
                        have hcz38_1 : w18.cell? ⟨gb121, 1, none⟩ = some (.int .i64 ((rd_T41 l0_1 a1).f1)) := (blk_cell BK121.out 1).trans rfl
                        have hcz38_2 : w18.cell? ⟨gb121, 2, none⟩ = some (.string ((rd_T41 l0_1 a1).f2)) := (blk_cell BK121.out 2).trans rfl
                        have hcz38_3 : w18.cell? ⟨gb121, 3, none⟩ = some (.string ((rd_T41 l0_1 a1).f3)) := (blk_cell BK121.out 3).trans rfl
                        have hcz38_4 : w18.cell? ⟨gb121, 4, none⟩ = some (.int .i64 ((rd_T41 l0_1 a1).f4)) := (blk_cell BK121.out 4).trans rfl
                        have hcz38_5 : w18.cell? ⟨gb121, 5, none⟩ = some (.int .i64 ((rd_T41 l0_1 a1).f5)) := (blk_cell BK121.out 5).trans rfl
                        have hcz38_6 : w18.cell? ⟨gb121, 6, none⟩ = some (.bool ((rd_T41 l0_1 a1).f6)) := (blk_cell BK121.out 6).trans rfl
                        have hfz38_0 := blk_frozen BK121.out 0
                        have hfz38_1 := blk_frozen BK121.out 1
                        have hfz38_2 := blk_frozen BK121.out 2
                        have hfz38_3 := blk_frozen BK121.out 3
                        have hfz38_4 := blk_frozen BK121.out 4
                        have hfz38_5 := blk_frozen BK121.out 5
                        have hfz38_6 := blk_frozen BK121.out 6
                        go_wp2
                        go_meet
                        case rel => exact ⟨_, (true), (by first | rfl | (simp; done) | (simp [*]; done)), H', ⟨by have := HK1.out; have := HK2.out; first | omega | exact Nat.le_refl _⟩, ⟨by (with_reducible repeat (first | apply Kd.R_alloc | apply Kd.R_drewN | apply Kd.R_drew)); exact Kd.R_mono (Kd.R_far (p := ⟨gb123, 6, none⟩) (Kd.R_far (p := ⟨gb123, 5, none⟩) (Kd.R_far (p := ⟨gb123, 4, none⟩) (Kd.R_far (p := ⟨gb123, 3, none⟩) (Kd.R_far (p := ⟨gb123, 2, none⟩) (Kd.R_far (p := ⟨gb123, 1, none⟩) (Kd.R_far (p := ⟨gb123, 0, none⟩) (Kd.R_types HO_3.out BK123.out (by decide)) (fun _ hk => hk.2) (.int .i64 ((rd_T41 l0_1 x24_2).f0))) (fun _ hk => hk.2) (.int .i64 ((rd_T41 l0_1 x24_2).f1))) (fun _ hk => hk.2) (.string ((rd_T41 l0_1 x24_2).f2))) (fun _ hk => hk.2) (.string ((rd_T41 l0_1 x24_2).f3))) (fun _ hk => hk.2) (.int .i64 ((rd_T41 l0_1 x24_2).f4))) (fun _ hk => hk.2) (.int .i64 ((rd_T41 l0_1 x24_2).f5))) (fun _ hk => hk.2) (.bool ((rd_T41 l0_1 x24_2).f6))) (fun _ hk => hk.1)⟩, ⟨by (with_reducible repeat (first | refine blk_drewN ?_ _ | refine blk_drew ?_ | refine blk_alloc ?_ _)); refine blk_far ?_ NB119_123.out _; (with_reducible repeat (first | refine blk_drewN ?_ _ | refine blk_drew ?_ | refine blk_alloc ?_ _)); refine blk_far ?_ NB119_123.out _; (with_reducible repeat (first | refine blk_drewN ?_ _ | refine blk_drew ?_ | refine blk_alloc ?_ _)); refine blk_far ?_ NB119_123.out _; (with_reducible repeat (first | refine blk_drewN ?_ _ | refine blk_drew ?_ | refine blk_alloc ?_ _)); refine blk_far ?_ NB119_123.out _; (with_reducible repeat (first | refine blk_drewN ?_ _ | refine blk_drew ?_ | refine blk_alloc ?_ _)); refine blk_far ?_ NB119_123.out _; (with_reducible repeat (first | refine blk_drewN ?_ _ | refine blk_drew ?_ | refine blk_alloc ?_ _)); refine blk_far ?_ NB119_123.out _; (with_reducible repeat (first | refine blk_drewN ?_ _ | refine blk_drew ?_ | refine blk_alloc ?_ _)); refine blk_far ?_ NB119_123.out _; (with_reducible repeat (first | refine blk_drewN ?_ _ | refine blk_drew ?_ | refine blk_alloc ?_ _)); exact BK119.out⟩, ⟨by (with_reducible repeat (first | refine blk_drewN ?_ _ | refine blk_drew ?_ | refine blk_alloc ?_ _)); refine blk_far ?_ NB121_123.out _; (with_reducible repeat (first | refine blk_drewN ?_ _ | refine blk_drew ?_ | refine blk_alloc ?_ _)); refine blk_far ?_ NB121_123.out _; (with_reducible repeat (first | refine blk_drewN ?_ _ | refine blk_drew ?_ | refine blk_alloc ?_ _)); refine blk_far ?_ NB121_123.out _; (with_reducible repeat (first | refine blk_drewN ?_ _ | refine blk_drew ?_ | refine blk_alloc ?_ _)); refine blk_far ?_ NB121_123.out _; (with_reducible repeat (first | refine blk_drewN ?_ _ | refine blk_drew ?_ | refine blk_alloc ?_ _)); refine blk_far ?_ NB121_123.out _; (with_reducible repeat (first | refine blk_drewN ?_ _ | refine blk_drew ?_ | refine blk_alloc ?_ _)); refine blk_far ?_ NB121_123.out _; (with_reducible repeat (first | refine blk_drewN ?_ _ | refine blk_drew ?_ | refine blk_alloc ?_ _)); refine blk_far ?_ NB121_123.out _; (with_reducible repeat (first | refine blk_drewN ?_ _ | refine blk_drew ?_ | refine blk_alloc ?_ _)); exact BK121.out⟩, ⟨by (with_reducible repeat (first | refine blk_drewN ?_ _ | refine blk_drew ?_ | refine blk_alloc ?_ _)); refine blk_put (cs := #[.int .i64 ((rd_T41 l0_1 x24_2).f0), .int .i64 ((rd_T41 l0_1 x24_2).f1), .string ((rd_T41 l0_1 x24_2).f2), .string ((rd_T41 l0_1 x24_2).f3), .int .i64 ((rd_T41 l0_1 x24_2).f4), .int .i64 ((rd_T41 l0_1 x24_2).f5), .bool false]) ?_ 6 _ rfl; (with_reducible repeat (first | refine blk_drewN ?_ _ | refine blk_drew ?_ | refine blk_alloc ?_ _)); refine blk_put (cs := #[.int .i64 ((rd_T41 l0_1 x24_2).f0), .int .i64 ((rd_T41 l0_1 x24_2).f1), .string ((rd_T41 l0_1 x24_2).f2), .string ((rd_T41 l0_1 x24_2).f3), .int .i64 ((rd_T41 l0_1 x24_2).f4), .int .i64 0, .bool false]) ?_ 5 _ rfl; (with_reducible repeat (first | refine blk_drewN ?_ _ | refine blk_drew ?_ | refine blk_alloc ?_ _)); refine blk_put (cs := #[.int .i64 ((rd_T41 l0_1 x24_2).f0), .int .i64 ((rd_T41 l0_1 x24_2).f1), .string ((rd_T41 l0_1 x24_2).f2), .string ((rd_T41 l0_1 x24_2).f3), .int .i64 0, .int .i64 0, .bool false]) ?_ 4 _ rfl; (with_reducible repeat (first | refine blk_drewN ?_ _ | refine blk_drew ?_ | refine blk_alloc ?_ _)); refine blk_put (cs := #[.int .i64 ((rd_T41 l0_1 x24_2).f0), .int .i64 ((rd_T41 l0_1 x24_2).f1), .string ((rd_T41 l0_1 x24_2).f2), .string (⟨#[]⟩ : ByteArray), .int .i64 0, .int .i64 0, .bool false]) ?_ 3 _ rfl; (with_reducible repeat (first | refine blk_drewN ?_ _ | refine blk_drew ?_ | refine blk_alloc ?_ _)); refine blk_put (cs := #[.int .i64 ((rd_T41 l0_1 x24_2).f0), .int .i64 ((rd_T41 l0_1 x24_2).f1), .string (⟨#[]⟩ : ByteArray), .string (⟨#[]⟩ : ByteArray), .int .i64 0, .int .i64 0, .bool false]) ?_ 2 _ rfl; (with_reducible repeat (first | refine blk_drewN ?_ _ | refine blk_drew ?_ | refine blk_alloc ?_ _)); refine blk_put (cs := #[.int .i64 ((rd_T41 l0_1 x24_2).f0), .int .i64 0, .string (⟨#[]⟩ : ByteArray), .string (⟨#[]⟩ : ByteArray), .int .i64 0, .int .i64 0, .bool false]) ?_ 1 _ rfl; (with_reducible repeat (first | refine blk_drewN ?_ _ | refine blk_drew ?_ | refine blk_alloc ?_ _)); refine blk_put (cs := #[.int .i64 0, .int .i64 0, .string (⟨#[]⟩ : ByteArray), .string (⟨#[]⟩ : ByteArray), .int .i64 0, .int .i64 0, .bool false]) ?_ 0 _ rfl; (with_reducible repeat (first | refine blk_drewN ?_ _ | refine blk_drew ?_ | refine blk_alloc ?_ _)); exact BK123.out⟩, ⟨by repeat (first | (with_reducible first | exact HK.out | apply Kept.alloc | apply Kept.drewN | apply Kept.drew | refine Kept.setCell ?_ (.inr GW119.out) _ | refine Kept.setCell ?_ (.inr GW121.out) _ | refine Kept.setCell ?_ (.inr GW123.out) _) | exact HK.out)⟩, ⟨by repeat (first | (with_reducible first | exact HB.out | apply below_alloc | apply pw_below_drewN | apply below_drew1 | refine below_set ?_ GE119.out | refine below_set ?_ GE121.out | refine below_set ?_ GE123.out) | exact HB.out)⟩⟩
                    case rest =>
                      clear HC17
                      try clear c1
                      try clear p1
                      try clear q1
                      try clear hx1
                      try clear c2
                      try clear p2
                      try clear c3
                      try clear c5
                      try clear c5b0
                      try clear c6
                      try clear c6b0
                      try clear c10
                      try clear c12
                      try clear p12
                      try clear q12
                      try clear hx12
                      try clear c14
                      try clear c14b0
                      try clear c15
                      try clear c15b0
                      try clear c16
                      try clear c16b0
                      try clear c19
                      try clear c20
                      try clear c22
                      try clear c22b0
                      try clear c22b1
                      try clear c23
                      try clear c23b0
                      try clear c24
                      try clear c25
                      try clear c27
                      try clear c29
                      try clear c30
                      try clear c32
                      try clear c34
                      try clear c35
                      try clear c37
                      try clear hcz11_0
                      try clear hcz11_1
                      try clear hcz11_2
                      try clear hcz11_3
                      try clear hcz11_4
                      try clear hcz11_5
                      try clear hcz11_6
                      try clear hcz13_0
                      try clear hcz13_1
                      try clear hcz21_0
                      try clear hcz21_1
                      try clear hcz21_2
                      try clear hcz21_3
                      try clear hcz21_4
                      try clear hcz21_5
                      try clear hcz21_6
                      try clear hcz26_0
                      try clear hcz26_1
                      try clear hcz26_2
                      try clear hcz26_3
                      try clear hcz26_4
                      try clear hcz26_5
                      try clear hcz26_6
                      try clear hcz28_0
                      try clear hcz28_1
                      try clear hcz28_2
                      try clear hcz28_3
                      try clear hcz28_4
                      try clear hcz28_5
                      try clear hcz28_6
                      try clear hcz31_0
                      try clear hcz31_1
                      try clear hcz31_2
                      try clear hcz31_3
                      try clear hcz31_4
                      try clear hcz31_5
                      try clear hcz31_6
                      try clear hcz33_0
                      try clear hcz33_1
                      try clear hcz33_2
                      try clear hcz33_3
                      try clear hcz33_4
                      try clear hcz33_5
                      try clear hcz33_6
                      try clear hcz36_0
                      try clear hcz36_1
                      try clear hcz36_2
                      try clear hcz36_3
                      try clear hcz36_4
                      try clear hcz36_5
                      try clear hcz36_6
                      try clear hcz38_0
                      try clear hcz38_1
                      try clear hcz38_2
                      try clear hcz38_3
                      try clear hcz38_4
                      try clear hcz38_5
                      try clear hcz38_6
                      try clear hcz8_0
                      try clear hcz8_1
                      try clear hfz11_0
                      try clear hfz11_1
                      try clear hfz11_2
                      try clear hfz11_3
                      try clear hfz11_4
                      try clear hfz11_5
                      try clear hfz11_6
                      try clear hfz13_0
                      try clear hfz13_1
                      try clear hfz21_0
                      try clear hfz21_1
                      try clear hfz21_2
                      try clear hfz21_3
                      try clear hfz21_4
                      try clear hfz21_5
                      try clear hfz21_6
                      try clear hfz26_0
                      try clear hfz26_1
                      try clear hfz26_2
                      try clear hfz26_3
                      try clear hfz26_4
                      try clear hfz26_5
                      try clear hfz26_6
                      try clear hfz28_0
                      try clear hfz28_1
                      try clear hfz28_2
                      try clear hfz28_3
                      try clear hfz28_4
                      try clear hfz28_5
                      try clear hfz28_6
                      try clear hfz31_0
                      try clear hfz31_1
                      try clear hfz31_2
                      try clear hfz31_3
                      try clear hfz31_4
                      try clear hfz31_5
                      try clear hfz31_6
                      try clear hfz33_0
                      try clear hfz33_1
                      try clear hfz33_2
                      try clear hfz33_3
                      try clear hfz33_4
                      try clear hfz33_5
                      try clear hfz33_6
                      try clear hfz36_0
                      try clear hfz36_1
                      try clear hfz36_2
                      try clear hfz36_3
                      try clear hfz36_4
                      try clear hfz36_5
                      try clear hfz36_6
                      try clear hfz38_0
                      try clear hfz38_1
                      try clear hfz38_2
                      try clear hfz38_3
                      try clear hfz38_4
                      try clear hfz38_5
                      try clear hfz38_6
                      try clear hfz8_0
                      try clear hfz8_1
                      try clear hx120_0
                      try clear hx120_1
                      try clear hx120_2
                      try clear hx120_3
                      try clear hx120_4
                      try clear hx120_5
                      try clear hx120_6
                      try clear hx122_0
                      try clear hx122_1
                      try clear hx122_2
                      try clear hx122_3
                      try clear hx122_4
                      try clear hx122_5
                      try clear hx122_6
                      try clear p1
                      try clear p12
                      try clear p120
                      try clear p122
                      try clear p2
                      try clear q1
                      try clear q12
                      try clear q120
                      try clear q122
                      obtain ⟨kq, x46_16, rfl, HA, HJ16, HO_3, BK119, BK121, BK123, HK, HB⟩ := hcut
                      cases kq with
                      | zero => exact absurd HA.out (by simp [spec_l23Path.j2])
                      | succ kj16 =>
                        have H := HA.out
                        clear HA
                        simp only [spec_l23Path.j2] at H
                        by_cases c39 : x46_16 = true
                        · subst c39
                          have H1 : (spec_l23Path.l1 kj16 x2_1 x3_1 x10_2 x11_2 l0_1 (l0_1.length : Int) (wrap64 (x24_2 + 1)) a0_0 l0_1 ((rd_T41 l0_1 a1).f0) ((rd_T41 l0_1 a1).f1) ((rd_T41 l0_1 a1).f2) ((rd_T41 l0_1 a1).f3) ((rd_T41 l0_1 a1).f4) ((rd_T41 l0_1 a1).f5) ((rd_T41 l0_1 a1).f6)) = some r := by rw [if_pos rfl] at H; exact H
                          clear H
                          have H := H1
                          clear H1
                          have H' := Aside0.mk H
                          clear H
                          go_wp2
                          go_roundg kj16
                          case measure => have := HK1.out; have := HK2.out; have := HJ16.out; omega
                          case rel => exact ⟨(x10_2), (x11_2), (wrap64 (x24_2 + 1)), (by first | rfl | (simp; done) | (simp [*]; done)), (by first | rfl | (simp; done) | (simp [*]; done)), (by first | rfl | (simp; done) | (simp [*]; done)), H', ⟨by have := HK1.out; have := HK2.out; have := HJ16.out; omega⟩, ⟨by (with_reducible repeat (first | apply Kd.R_alloc | apply Kd.R_drewN | apply Kd.R_drew)); exact HO_3.out⟩, ⟨by (with_reducible repeat (first | refine blk_drewN ?_ _ | refine blk_drew ?_ | refine blk_alloc ?_ _)); exact BK119.out⟩, ⟨by (with_reducible repeat (first | refine blk_drewN ?_ _ | refine blk_drew ?_ | refine blk_alloc ?_ _)); exact BK121.out⟩, ⟨by repeat (first | (with_reducible first | exact HK.out | apply Kept.alloc | apply Kept.drewN | apply Kept.drew | refine Kept.setCell ?_ (.inr GW119.out) _ | refine Kept.setCell ?_ (.inr GW121.out) _ | refine Kept.setCell ?_ (.inr GW123.out) _) | exact HK.out)⟩, ⟨by repeat (first | (with_reducible first | exact HB.out | apply below_alloc | apply pw_below_drewN | apply below_drew1 | refine below_set ?_ GE119.out | refine below_set ?_ GE121.out | refine below_set ?_ GE123.out) | exact HB.out)⟩⟩
                        · replace c39 := Bool.eq_false_iff.mpr c39
                          subst c39
                          have H1 : ((spec_l23Less.f ((rd_T41 l0_1 x24_2).f5) x2_1).bind fun t124 => (if x10_2 < 0 then (spec_l23Path.l1 kj16 x2_1 x3_1 x24_2 t124 l0_1 (l0_1.length : Int) (wrap64 (x24_2 + 1)) a0_0 l0_1 ((rd_T41 l0_1 a1).f0) ((rd_T41 l0_1 a1).f1) ((rd_T41 l0_1 a1).f2) ((rd_T41 l0_1 a1).f3) ((rd_T41 l0_1 a1).f4) ((rd_T41 l0_1 a1).f5) ((rd_T41 l0_1 a1).f6)) else (if t124 ≥ x11_2 then (spec_l23Path.l1 kj16 x2_1 x3_1 x24_2 t124 l0_1 (l0_1.length : Int) (wrap64 (x24_2 + 1)) a0_0 l0_1 ((rd_T41 l0_1 a1).f0) ((rd_T41 l0_1 a1).f1) ((rd_T41 l0_1 a1).f2) ((rd_T41 l0_1 a1).f3) ((rd_T41 l0_1 a1).f4) ((rd_T41 l0_1 a1).f5) ((rd_T41 l0_1 a1).f6)) else (spec_l23Path.l1 kj16 x2_1 x3_1 x10_2 x11_2 l0_1 (l0_1.length : Int) (wrap64 (x24_2 + 1)) a0_0 l0_1 ((rd_T41 l0_1 a1).f0) ((rd_T41 l0_1 a1).f1) ((rd_T41 l0_1 a1).f2) ((rd_T41 l0_1 a1).f3) ((rd_T41 l0_1 a1).f4) ((rd_T41 l0_1 a1).f5) ((rd_T41 l0_1 a1).f6))))) = some r := by rw [if_neg (show ¬ (false = true) by decide)] at H; exact H
                          clear H
                          have H := H1
                          clear H1
                          replace H := Option.bind_eq_some_iff.mp H
                          obtain ⟨t124, A400, H⟩ := H
                          replace H : (if x10_2 < 0 then (spec_l23Path.l1 kj16 x2_1 x3_1 x24_2 t124 l0_1 (l0_1.length : Int) (wrap64 (x24_2 + 1)) a0_0 l0_1 ((rd_T41 l0_1 a1).f0) ((rd_T41 l0_1 a1).f1) ((rd_T41 l0_1 a1).f2) ((rd_T41 l0_1 a1).f3) ((rd_T41 l0_1 a1).f4) ((rd_T41 l0_1 a1).f5) ((rd_T41 l0_1 a1).f6)) else (if t124 ≥ x11_2 then (spec_l23Path.l1 kj16 x2_1 x3_1 x24_2 t124 l0_1 (l0_1.length : Int) (wrap64 (x24_2 + 1)) a0_0 l0_1 ((rd_T41 l0_1 a1).f0) ((rd_T41 l0_1 a1).f1) ((rd_T41 l0_1 a1).f2) ((rd_T41 l0_1 a1).f3) ((rd_T41 l0_1 a1).f4) ((rd_T41 l0_1 a1).f5) ((rd_T41 l0_1 a1).f6)) else (spec_l23Path.l1 kj16 x2_1 x3_1 x10_2 x11_2 l0_1 (l0_1.length : Int) (wrap64 (x24_2 + 1)) a0_0 l0_1 ((rd_T41 l0_1 a1).f0) ((rd_T41 l0_1 a1).f1) ((rd_T41 l0_1 a1).f2) ((rd_T41 l0_1 a1).f3) ((rd_T41 l0_1 a1).f4) ((rd_T41 l0_1 a1).f5) ((rd_T41 l0_1 a1).f6)))) = some r := H
                          have A40 := Aside0.mk A400
                          clear A400
                          by_cases c41 : x10_2 < 0
                          · rw [if_pos c41] at H
                            have c41b0 : decide (x10_2 < 0) = true := decide_eq_true c41
                            clear c41
                            have H' := Aside0.mk H
                            clear H
                            have hnb42 := NB123_119.out
                            have hnc42 := NB119_123.out
                            have hnb43 := NB123_121.out
                            have hnc43 := NB121_123.out
                            have hcz44_0 : wc.cell? ⟨gb123, 0, none⟩ = some (.int .i64 ((rd_T41 l0_1 x24_2).f0)) := (blk_cell BK123.out 0).trans rfl
                            have hcz44_1 : wc.cell? ⟨gb123, 1, none⟩ = some (.int .i64 ((rd_T41 l0_1 x24_2).f1)) := (blk_cell BK123.out 1).trans rfl
                            have hcz44_2 : wc.cell? ⟨gb123, 2, none⟩ = some (.string ((rd_T41 l0_1 x24_2).f2)) := (blk_cell BK123.out 2).trans rfl
                            have hcz44_3 : wc.cell? ⟨gb123, 3, none⟩ = some (.string ((rd_T41 l0_1 x24_2).f3)) := (blk_cell BK123.out 3).trans rfl
                            have hcz44_4 : wc.cell? ⟨gb123, 4, none⟩ = some (.int .i64 ((rd_T41 l0_1 x24_2).f4)) := (blk_cell BK123.out 4).trans rfl
                            have hcz44_5 : wc.cell? ⟨gb123, 5, none⟩ = some (.int .i64 ((rd_T41 l0_1 x24_2).f5)) := (blk_cell BK123.out 5).trans rfl
                            have hcz44_6 : wc.cell? ⟨gb123, 6, none⟩ = some (.bool ((rd_T41 l0_1 x24_2).f6)) := (blk_cell BK123.out 6).trans rfl
                            have hfz44_0 := blk_frozen BK123.out 0
                            have hfz44_1 := blk_frozen BK123.out 1
                            have hfz44_2 := blk_frozen BK123.out 2
                            have hfz44_3 := blk_frozen BK123.out 3
                            have hfz44_4 := blk_frozen BK123.out 4
                            have hfz44_5 := blk_frozen BK123.out 5
                            have hfz44_6 := blk_frozen BK123.out 6
                            go_wp2_with (first | ((with_reducible refine gate_callee (f := 29) rfl ?_); refine goesL_ (some 50) rfl rfl Try.func29 (by kernel_rfl) rfl #[.int .i64 ((rd_T41 l0_1 x24_2).f5), .int .i64 x2_1] rfl (by (try simp only [List.map_toArray, List.map_cons, List.map_nil]); first | done | rfl | (simp only [List.length_drop, List.length_take]; rfl)) ?_; (with_reducible refine (spec_l23Less.calls ((rd_T41 l0_1 x24_2).f5) x2_1 t124 _ A40.out).mono ?_); rintro e w' ⟨rfl, ⟨nd, rfl⟩⟩; refine ⟨_, rfl, ?_⟩))
                            go_roundg kj16
                            case measure => have := HK1.out; have := HK2.out; have := HJ16.out; omega
                            case rel => exact ⟨(x24_2), (t124), (wrap64 (x24_2 + 1)), (by first | rfl | (simp; done) | (simp [*]; done)), (by first | rfl | (simp; done) | (simp [*]; done)), (by first | rfl | (simp; done) | (simp [*]; done)), H', ⟨by have := HK1.out; have := HK2.out; have := HJ16.out; omega⟩, ⟨by (with_reducible repeat (first | apply Kd.R_alloc | apply Kd.R_drewN | apply Kd.R_drew)); exact HO_3.out⟩, ⟨by (with_reducible repeat (first | refine blk_drewN ?_ _ | refine blk_drew ?_ | refine blk_alloc ?_ _)); exact BK119.out⟩, ⟨by (with_reducible repeat (first | refine blk_drewN ?_ _ | refine blk_drew ?_ | refine blk_alloc ?_ _)); exact BK121.out⟩, ⟨by repeat (first | (with_reducible first | exact HK.out | apply Kept.alloc | apply Kept.drewN | apply Kept.drew | refine Kept.setCell ?_ (.inr GW119.out) _ | refine Kept.setCell ?_ (.inr GW121.out) _ | refine Kept.setCell ?_ (.inr GW123.out) _) | exact HK.out)⟩, ⟨by repeat (first | (with_reducible first | exact HB.out | apply below_alloc | apply pw_below_drewN | apply below_drew1 | refine below_set ?_ GE119.out | refine below_set ?_ GE121.out | refine below_set ?_ GE123.out) | exact HB.out)⟩⟩
                          · rw [if_neg c41] at H
                            have c41b0 : decide (x10_2 < 0) = false := decide_eq_false c41
                            clear c41
                            by_cases c45 : t124 ≥ x11_2
                            · rw [if_pos c45] at H
                              have c45b0 : decide (x11_2 ≤ t124) = true := decide_eq_true c45
                              clear c45
                              have H' := Aside0.mk H
                              clear H
                              have hnb46 := NB123_119.out
                              have hnc46 := NB119_123.out
                              have hnb47 := NB123_121.out
                              have hnc47 := NB121_123.out
                              have hcz48_0 : wc.cell? ⟨gb123, 0, none⟩ = some (.int .i64 ((rd_T41 l0_1 x24_2).f0)) := (blk_cell BK123.out 0).trans rfl
                              have hcz48_1 : wc.cell? ⟨gb123, 1, none⟩ = some (.int .i64 ((rd_T41 l0_1 x24_2).f1)) := (blk_cell BK123.out 1).trans rfl
                              have hcz48_2 : wc.cell? ⟨gb123, 2, none⟩ = some (.string ((rd_T41 l0_1 x24_2).f2)) := (blk_cell BK123.out 2).trans rfl
                              have hcz48_3 : wc.cell? ⟨gb123, 3, none⟩ = some (.string ((rd_T41 l0_1 x24_2).f3)) := (blk_cell BK123.out 3).trans rfl
                              have hcz48_4 : wc.cell? ⟨gb123, 4, none⟩ = some (.int .i64 ((rd_T41 l0_1 x24_2).f4)) := (blk_cell BK123.out 4).trans rfl
                              have hcz48_5 : wc.cell? ⟨gb123, 5, none⟩ = some (.int .i64 ((rd_T41 l0_1 x24_2).f5)) := (blk_cell BK123.out 5).trans rfl
                              have hcz48_6 : wc.cell? ⟨gb123, 6, none⟩ = some (.bool ((rd_T41 l0_1 x24_2).f6)) := (blk_cell BK123.out 6).trans rfl
                              have hfz48_0 := blk_frozen BK123.out 0
                              have hfz48_1 := blk_frozen BK123.out 1
                              have hfz48_2 := blk_frozen BK123.out 2
                              have hfz48_3 := blk_frozen BK123.out 3
                              have hfz48_4 := blk_frozen BK123.out 4
                              have hfz48_5 := blk_frozen BK123.out 5
                              have hfz48_6 := blk_frozen BK123.out 6
                              go_wp2_with (first | ((with_reducible refine gate_callee (f := 29) rfl ?_); refine goesL_ (some 50) rfl rfl Try.func29 (by kernel_rfl) rfl #[.int .i64 ((rd_T41 l0_1 x24_2).f5), .int .i64 x2_1] rfl (by (try simp only [List.map_toArray, List.map_cons, List.map_nil]); first | done | rfl | (simp only [List.length_drop, List.length_take]; rfl)) ?_; (with_reducible refine (spec_l23Less.calls ((rd_T41 l0_1 x24_2).f5) x2_1 t124 _ A40.out).mono ?_); rintro e w' ⟨rfl, ⟨nd, rfl⟩⟩; refine ⟨_, rfl, ?_⟩))
                              go_roundg kj16
                              case measure => have := HK1.out; have := HK2.out; have := HJ16.out; omega
                              case rel => exact ⟨(x24_2), (t124), (wrap64 (x24_2 + 1)), (by first | rfl | (simp; done) | (simp [*]; done)), (by first | rfl | (simp; done) | (simp [*]; done)), (by first | rfl | (simp; done) | (simp [*]; done)), H', ⟨by have := HK1.out; have := HK2.out; have := HJ16.out; omega⟩, ⟨by (with_reducible repeat (first | apply Kd.R_alloc | apply Kd.R_drewN | apply Kd.R_drew)); exact HO_3.out⟩, ⟨by (with_reducible repeat (first | refine blk_drewN ?_ _ | refine blk_drew ?_ | refine blk_alloc ?_ _)); exact BK119.out⟩, ⟨by (with_reducible repeat (first | refine blk_drewN ?_ _ | refine blk_drew ?_ | refine blk_alloc ?_ _)); exact BK121.out⟩, ⟨by repeat (first | (with_reducible first | exact HK.out | apply Kept.alloc | apply Kept.drewN | apply Kept.drew | refine Kept.setCell ?_ (.inr GW119.out) _ | refine Kept.setCell ?_ (.inr GW121.out) _ | refine Kept.setCell ?_ (.inr GW123.out) _) | exact HK.out)⟩, ⟨by repeat (first | (with_reducible first | exact HB.out | apply below_alloc | apply pw_below_drewN | apply below_drew1 | refine below_set ?_ GE119.out | refine below_set ?_ GE121.out | refine below_set ?_ GE123.out) | exact HB.out)⟩⟩
                            · rw [if_neg c45] at H
                              have c45b0 : decide (x11_2 ≤ t124) = false := decide_eq_false c45
                              clear c45
                              have H' := Aside0.mk H
                              clear H
                              have hnb49 := NB123_119.out
                              have hnc49 := NB119_123.out
                              have hnb50 := NB123_121.out
                              have hnc50 := NB121_123.out
                              have hcz51_0 : wc.cell? ⟨gb123, 0, none⟩ = some (.int .i64 ((rd_T41 l0_1 x24_2).f0)) := (blk_cell BK123.out 0).trans rfl
                              have hcz51_1 : wc.cell? ⟨gb123, 1, none⟩ = some (.int .i64 ((rd_T41 l0_1 x24_2).f1)) := (blk_cell BK123.out 1).trans rfl
                              have hcz51_2 : wc.cell? ⟨gb123, 2, none⟩ = some (.string ((rd_T41 l0_1 x24_2).f2)) := (blk_cell BK123.out 2).trans rfl
                              have hcz51_3 : wc.cell? ⟨gb123, 3, none⟩ = some (.string ((rd_T41 l0_1 x24_2).f3)) := (blk_cell BK123.out 3).trans rfl
                              have hcz51_4 : wc.cell? ⟨gb123, 4, none⟩ = some (.int .i64 ((rd_T41 l0_1 x24_2).f4)) := (blk_cell BK123.out 4).trans rfl
                              have hcz51_5 : wc.cell? ⟨gb123, 5, none⟩ = some (.int .i64 ((rd_T41 l0_1 x24_2).f5)) := (blk_cell BK123.out 5).trans rfl
                              have hcz51_6 : wc.cell? ⟨gb123, 6, none⟩ = some (.bool ((rd_T41 l0_1 x24_2).f6)) := (blk_cell BK123.out 6).trans rfl
                              have hfz51_0 := blk_frozen BK123.out 0
                              have hfz51_1 := blk_frozen BK123.out 1
                              have hfz51_2 := blk_frozen BK123.out 2
                              have hfz51_3 := blk_frozen BK123.out 3
                              have hfz51_4 := blk_frozen BK123.out 4
                              have hfz51_5 := blk_frozen BK123.out 5
                              have hfz51_6 := blk_frozen BK123.out 6
                              go_wp2_with (first | ((with_reducible refine gate_callee (f := 29) rfl ?_); refine goesL_ (some 50) rfl rfl Try.func29 (by kernel_rfl) rfl #[.int .i64 ((rd_T41 l0_1 x24_2).f5), .int .i64 x2_1] rfl (by (try simp only [List.map_toArray, List.map_cons, List.map_nil]); first | done | rfl | (simp only [List.length_drop, List.length_take]; rfl)) ?_; (with_reducible refine (spec_l23Less.calls ((rd_T41 l0_1 x24_2).f5) x2_1 t124 _ A40.out).mono ?_); rintro e w' ⟨rfl, ⟨nd, rfl⟩⟩; refine ⟨_, rfl, ?_⟩))
                              go_roundg kj16
                              case measure => have := HK1.out; have := HK2.out; have := HJ16.out; omega
                              case rel => exact ⟨(x10_2), (x11_2), (wrap64 (x24_2 + 1)), (by first | rfl | (simp; done) | (simp [*]; done)), (by first | rfl | (simp; done) | (simp [*]; done)), (by first | rfl | (simp; done) | (simp [*]; done)), H', ⟨by have := HK1.out; have := HK2.out; have := HJ16.out; omega⟩, ⟨by (with_reducible repeat (first | apply Kd.R_alloc | apply Kd.R_drewN | apply Kd.R_drew)); exact HO_3.out⟩, ⟨by (with_reducible repeat (first | refine blk_drewN ?_ _ | refine blk_drew ?_ | refine blk_alloc ?_ _)); exact BK119.out⟩, ⟨by (with_reducible repeat (first | refine blk_drewN ?_ _ | refine blk_drew ?_ | refine blk_alloc ?_ _)); exact BK121.out⟩, ⟨by repeat (first | (with_reducible first | exact HK.out | apply Kept.alloc | apply Kept.drewN | apply Kept.drew | refine Kept.setCell ?_ (.inr GW119.out) _ | refine Kept.setCell ?_ (.inr GW121.out) _ | refine Kept.setCell ?_ (.inr GW123.out) _) | exact HK.out)⟩, ⟨by repeat (first | (with_reducible first | exact HB.out | apply below_alloc | apply pw_below_drewN | apply below_drew1 | refine below_set ?_ GE119.out | refine below_set ?_ GE121.out | refine below_set ?_ GE123.out) | exact HB.out)⟩⟩
                  · rw [if_neg c16] at H
                    exact absurd H (by simp)
                · rw [if_neg c15] at H
                  exact absurd H (by simp)
              · rw [if_neg c14] at H
                have c14b0 : decide (x24_2 < (l0_1.length : Int)) = false := decide_eq_false c14
                clear c14
                have HC52 := Aside0.mk H
                clear H
                have hnb53 := NB121_119.out
                have hnc53 := NB119_121.out
                have hcz54_0 : wr.cell? ⟨gb121, 0, none⟩ = some (.int .i64 ((rd_T41 l0_1 a1).f0)) := (blk_cell BK121.out 0).trans rfl
                have hcz54_1 : wr.cell? ⟨gb121, 1, none⟩ = some (.int .i64 ((rd_T41 l0_1 a1).f1)) := (blk_cell BK121.out 1).trans rfl
                have hcz54_2 : wr.cell? ⟨gb121, 2, none⟩ = some (.string ((rd_T41 l0_1 a1).f2)) := (blk_cell BK121.out 2).trans rfl
                have hcz54_3 : wr.cell? ⟨gb121, 3, none⟩ = some (.string ((rd_T41 l0_1 a1).f3)) := (blk_cell BK121.out 3).trans rfl
                have hcz54_4 : wr.cell? ⟨gb121, 4, none⟩ = some (.int .i64 ((rd_T41 l0_1 a1).f4)) := (blk_cell BK121.out 4).trans rfl
                have hcz54_5 : wr.cell? ⟨gb121, 5, none⟩ = some (.int .i64 ((rd_T41 l0_1 a1).f5)) := (blk_cell BK121.out 5).trans rfl
                have hcz54_6 : wr.cell? ⟨gb121, 6, none⟩ = some (.bool ((rd_T41 l0_1 a1).f6)) := (blk_cell BK121.out 6).trans rfl
                have hfz54_0 := blk_frozen BK121.out 0
                have hfz54_1 := blk_frozen BK121.out 1
                have hfz54_2 := blk_frozen BK121.out 2
                have hfz54_3 := blk_frozen BK121.out 3
                have hfz54_4 := blk_frozen BK121.out 4
                have hfz54_5 := blk_frozen BK121.out 5
                have hfz54_6 := blk_frozen BK121.out 6
                go_upto_if 64 with (fail)
                go_cut [15] (fun v15 wc => ∃ (kq : Nat) (x15_51 : Int), v15 = .int .i64 x15_51 ∧ Aside0 (spec_l23Path.j3 kq x2_1 x3_1 x10_2 x11_2 x15_51 a0_0 l0_1 ((rd_T41 l0_1 a1).f0) ((rd_T41 l0_1 a1).f1) ((rd_T41 l0_1 a1).f2) ((rd_T41 l0_1 a1).f3) ((rd_T41 l0_1 a1).f4) ((rd_T41 l0_1 a1).f5) ((rd_T41 l0_1 a1).f6) = some r) ∧ Aside0 (kq ≤ k2) ∧ Aside0 (Kd.R k43 43 wc w0.heap.size (fun k_ => (P3_ k_ ∨ w.heap.size ≤ k_)) u3 x3_1) ∧ Aside0 (wc.heap[gb119]? = some (.cells #[.int .i64 a0_0, (.slice (some ad120) l0_1.length c0_1)] 30 (0, 0))) ∧ Aside0 (wc.heap[gb121]? = some (.cells #[.int .i64 ((rd_T41 l0_1 a1).f0), .int .i64 ((rd_T41 l0_1 a1).f1), .string ((rd_T41 l0_1 a1).f2), .string ((rd_T41 l0_1 a1).f3), .int .i64 ((rd_T41 l0_1 a1).f4), .int .i64 ((rd_T41 l0_1 a1).f5), .bool ((rd_T41 l0_1 a1).f6)] 41 (0, 0))) ∧ Aside0 (Kept w wc (fun k_ => P3_ k_)) ∧ Aside0 (Below w0.heap.size w0 wc))
                case first =>
                  have H := HC52.out
                  clear HC52
                  by_cases c55 : x10_2 ≥ 0
                  · rw [if_pos c55] at H
                    have c55b0 : decide (0 ≤ x10_2) = true := decide_eq_true c55
                    clear c55
                    (first | rw [c55b0] | (simp only [i64_w, i32_w]; rw [c55b0]) | skip)
                    have H' := Aside0.mk H
                    clear H
                    go_wp2
                    go_meet
                    case rel => exact ⟨_, (x11_2), (by first | rfl | (simp; done) | (simp [*]; done)), H', ⟨by have := HK1.out; have := HK2.out; first | omega | exact Nat.le_refl _⟩, ⟨by (with_reducible repeat (first | apply Kd.R_alloc | apply Kd.R_drewN | apply Kd.R_drew)); exact HO_3.out⟩, ⟨by (with_reducible repeat (first | refine blk_drewN ?_ _ | refine blk_drew ?_ | refine blk_alloc ?_ _)); exact BK119.out⟩, ⟨by (with_reducible repeat (first | refine blk_drewN ?_ _ | refine blk_drew ?_ | refine blk_alloc ?_ _)); exact BK121.out⟩, ⟨by repeat (first | (with_reducible first | exact HK.out | apply Kept.alloc | apply Kept.drewN | apply Kept.drew | refine Kept.setCell ?_ (.inr GW119.out) _ | refine Kept.setCell ?_ (.inr GW121.out) _) | exact HK.out)⟩, ⟨by repeat (first | (with_reducible first | exact HB.out | apply below_alloc | apply pw_below_drewN | apply below_drew1 | refine below_set ?_ GE119.out | refine below_set ?_ GE121.out) | exact HB.out)⟩⟩
                  · rw [if_neg c55] at H
                    have c55b0 : decide (0 ≤ x10_2) = false := decide_eq_false c55
                    clear c55
                    (first | rw [c55b0] | (simp only [i64_w, i32_w]; rw [c55b0]) | skip)
                    have H' := Aside0.mk H
                    clear H
                    go_wp2
                    go_meet
                    case rel => exact ⟨_, (((rd_T41 l0_1 a1).f4)), (by first | rfl | (simp; done) | (simp [*]; done)), H', ⟨by have := HK1.out; have := HK2.out; first | omega | exact Nat.le_refl _⟩, ⟨by (with_reducible repeat (first | apply Kd.R_alloc | apply Kd.R_drewN | apply Kd.R_drew)); exact HO_3.out⟩, ⟨by (with_reducible repeat (first | refine blk_drewN ?_ _ | refine blk_drew ?_ | refine blk_alloc ?_ _)); exact BK119.out⟩, ⟨by (with_reducible repeat (first | refine blk_drewN ?_ _ | refine blk_drew ?_ | refine blk_alloc ?_ _)); exact BK121.out⟩, ⟨by repeat (first | (with_reducible first | exact HK.out | apply Kept.alloc | apply Kept.drewN | apply Kept.drew | refine Kept.setCell ?_ (.inr GW119.out) _ | refine Kept.setCell ?_ (.inr GW121.out) _) | exact HK.out)⟩, ⟨by repeat (first | (with_reducible first | exact HB.out | apply below_alloc | apply pw_below_drewN | apply below_drew1 | refine below_set ?_ GE119.out | refine below_set ?_ GE121.out) | exact HB.out)⟩⟩
                case rest =>
                  clear HC52
                  try clear c1
                  try clear p1
                  try clear q1
                  try clear hx1
                  try clear c2
                  try clear p2
                  try clear c3
                  try clear c4
                  try clear c5
                  try clear c5b0
                  try clear c6
                  try clear c6b0
                  try clear p6
                  try clear c10
                  try clear c12
                  try clear p12
                  try clear q12
                  try clear hx12
                  try clear c14
                  try clear c14b0
                  try clear c15
                  try clear c15b0
                  try clear c16
                  try clear c16b0
                  try clear c19
                  try clear c20
                  try clear c22
                  try clear c22b0
                  try clear c22b1
                  try clear c23
                  try clear c23b0
                  try clear c24
                  try clear c25
                  try clear c27
                  try clear c29
                  try clear c30
                  try clear c32
                  try clear c34
                  try clear c35
                  try clear c37
                  try clear c39
                  try clear c41
                  try clear c41b0
                  try clear c42
                  try clear c43
                  try clear c45
                  try clear c45b0
                  try clear c46
                  try clear c47
                  try clear c49
                  try clear c50
                  try clear c53
                  try clear c55
                  try clear c55b0
                  try clear hcz11_0
                  try clear hcz11_1
                  try clear hcz11_2
                  try clear hcz11_3
                  try clear hcz11_4
                  try clear hcz11_5
                  try clear hcz11_6
                  try clear hcz13_0
                  try clear hcz13_1
                  try clear hcz21_0
                  try clear hcz21_1
                  try clear hcz21_2
                  try clear hcz21_3
                  try clear hcz21_4
                  try clear hcz21_5
                  try clear hcz21_6
                  try clear hcz26_0
                  try clear hcz26_1
                  try clear hcz26_2
                  try clear hcz26_3
                  try clear hcz26_4
                  try clear hcz26_5
                  try clear hcz26_6
                  try clear hcz28_0
                  try clear hcz28_1
                  try clear hcz28_2
                  try clear hcz28_3
                  try clear hcz28_4
                  try clear hcz28_5
                  try clear hcz28_6
                  try clear hcz31_0
                  try clear hcz31_1
                  try clear hcz31_2
                  try clear hcz31_3
                  try clear hcz31_4
                  try clear hcz31_5
                  try clear hcz31_6
                  try clear hcz33_0
                  try clear hcz33_1
                  try clear hcz33_2
                  try clear hcz33_3
                  try clear hcz33_4
                  try clear hcz33_5
                  try clear hcz33_6
                  try clear hcz36_0
                  try clear hcz36_1
                  try clear hcz36_2
                  try clear hcz36_3
                  try clear hcz36_4
                  try clear hcz36_5
                  try clear hcz36_6
                  try clear hcz38_0
                  try clear hcz38_1
                  try clear hcz38_2
                  try clear hcz38_3
                  try clear hcz38_4
                  try clear hcz38_5
                  try clear hcz38_6
                  try clear hcz44_0
                  try clear hcz44_1
                  try clear hcz44_2
                  try clear hcz44_3
                  try clear hcz44_4
                  try clear hcz44_5
                  try clear hcz44_6
                  try clear hcz48_0
                  try clear hcz48_1
                  try clear hcz48_2
                  try clear hcz48_3
                  try clear hcz48_4
                  try clear hcz48_5
                  try clear hcz48_6
                  try clear hcz51_0
                  try clear hcz51_1
                  try clear hcz51_2
                  try clear hcz51_3
                  try clear hcz51_4
                  try clear hcz51_5
                  try clear hcz51_6
                  try clear hcz54_0
                  try clear hcz54_1
                  try clear hcz54_2
                  try clear hcz54_3
                  try clear hcz54_4
                  try clear hcz54_5
                  try clear hcz54_6
                  try clear hcz8_0
                  try clear hcz8_1
                  try clear hfz11_0
                  try clear hfz11_1
                  try clear hfz11_2
                  try clear hfz11_3
                  try clear hfz11_4
                  try clear hfz11_5
                  try clear hfz11_6
                  try clear hfz13_0
                  try clear hfz13_1
                  try clear hfz21_0
                  try clear hfz21_1
                  try clear hfz21_2
                  try clear hfz21_3
                  try clear hfz21_4
                  try clear hfz21_5
                  try clear hfz21_6
                  try clear hfz26_0
                  try clear hfz26_1
                  try clear hfz26_2
                  try clear hfz26_3
                  try clear hfz26_4
                  try clear hfz26_5
                  try clear hfz26_6
                  try clear hfz28_0
                  try clear hfz28_1
                  try clear hfz28_2
                  try clear hfz28_3
                  try clear hfz28_4
                  try clear hfz28_5
                  try clear hfz28_6
                  try clear hfz31_0
                  try clear hfz31_1
                  try clear hfz31_2
                  try clear hfz31_3
                  try clear hfz31_4
                  try clear hfz31_5
                  try clear hfz31_6
                  try clear hfz33_0
                  try clear hfz33_1
                  try clear hfz33_2
                  try clear hfz33_3
                  try clear hfz33_4
                  try clear hfz33_5
                  try clear hfz33_6
                  try clear hfz36_0
                  try clear hfz36_1
                  try clear hfz36_2
                  try clear hfz36_3
                  try clear hfz36_4
                  try clear hfz36_5
                  try clear hfz36_6
                  try clear hfz38_0
                  try clear hfz38_1
                  try clear hfz38_2
                  try clear hfz38_3
                  try clear hfz38_4
                  try clear hfz38_5
                  try clear hfz38_6
                  try clear hfz44_0
                  try clear hfz44_1
                  try clear hfz44_2
                  try clear hfz44_3
                  try clear hfz44_4
                  try clear hfz44_5
                  try clear hfz44_6
                  try clear hfz48_0
                  try clear hfz48_1
                  try clear hfz48_2
                  try clear hfz48_3
                  try clear hfz48_4
                  try clear hfz48_5
                  try clear hfz48_6
                  try clear hfz51_0
                  try clear hfz51_1
                  try clear hfz51_2
                  try clear hfz51_3
                  try clear hfz51_4
                  try clear hfz51_5
                  try clear hfz51_6
                  try clear hfz54_0
                  try clear hfz54_1
                  try clear hfz54_2
                  try clear hfz54_3
                  try clear hfz54_4
                  try clear hfz54_5
                  try clear hfz54_6
                  try clear hfz8_0
                  try clear hfz8_1
                  try clear hx120_0
                  try clear hx120_1
                  try clear hx120_2
                  try clear hx120_3
                  try clear hx120_4
                  try clear hx120_5
                  try clear hx120_6
                  try clear hx122_0
                  try clear hx122_1
                  try clear hx122_2
                  try clear hx122_3
                  try clear hx122_4
                  try clear hx122_5
                  try clear hx122_6
                  try clear p1
                  try clear p12
                  try clear p120
                  try clear p122
                  try clear p2
                  try clear q1
                  try clear q12
                  try clear q120
                  try clear q122
                  obtain ⟨kq, x15_51, rfl, HA, HJ51, HO_3, BK119, BK121, HK, HB⟩ := hcut
                  cases kq with
                  | zero => exact absurd HA.out (by simp [spec_l23Path.j3])
                  | succ kj51 =>
                    have H := HA.out
                    clear HA
                    simp only [spec_l23Path.j3] at H
                    by_cases c56 : x15_51 < x2_1
                    · rw [if_pos c56] at H
                      have c56b0 : decide (x15_51 < x2_1) = true := decide_eq_true c56
                      clear c56
                      by_cases c57 : x3_1.length < 5864062014805
                      · rw [if_pos c57] at H
                        have LMc57 := Aside0.mk c57
                        clear c57
                        obtain ⟨y125, hy125⟩ : ∃ y_ : List (S43), y_ = (x3_1 ++ [(⟨((rd_T41 l0_1 a1).f0), x15_51, x2_1⟩ : S43)]) := ⟨_, rfl⟩
                        replace H : (if x10_2 < 0 then (some y125) else ((spec_l23Path.f kj51 a0_0 l0_1 x10_2 x11_2 y125).bind fun t128 => (if 0 ≤ x10_2 then (if x10_2 < (l0_1.length : Int) then (spec_l23Path.l0 kj51 ((rd_T41 l0_1 x10_2).f4) t128 a0_0 l0_1 ((rd_T41 l0_1 a1).f0) ((rd_T41 l0_1 a1).f1) ((rd_T41 l0_1 a1).f2) ((rd_T41 l0_1 a1).f3) ((rd_T41 l0_1 a1).f4) ((rd_T41 l0_1 a1).f5) ((rd_T41 l0_1 a1).f6)) else (none)) else (none)))) = some r := by first | (rw [hy125]; with_reducible exact H) | (have H2_ := (Option.bind_some _ _).symm.trans H; rw [hy125]; with_reducible exact H2_) | (have H2_ := (Option.bind_some _ _).symm.trans H; with_reducible exact H2_) | with_reducible exact H | (rw [hy125]; exact H) | exact H
                        have Ny125 := Aside0.mk hy125
                        clear hy125
                        by_cases c58 : x10_2 < 0
                        · rw [if_pos c58] at H
                          have c58b0 : decide (x10_2 < 0) = true := decide_eq_true c58
                          clear c58
                          obtain rfl := Option.some.inj H
                          have hnb59 := NB121_119.out
                          have hnc59 := NB119_121.out
                          have hcz60_0 : wc.cell? ⟨gb121, 0, none⟩ = some (.int .i64 ((rd_T41 l0_1 a1).f0)) := (blk_cell BK121.out 0).trans rfl
                          have hcz60_1 : wc.cell? ⟨gb121, 1, none⟩ = some (.int .i64 ((rd_T41 l0_1 a1).f1)) := (blk_cell BK121.out 1).trans rfl
                          have hcz60_2 : wc.cell? ⟨gb121, 2, none⟩ = some (.string ((rd_T41 l0_1 a1).f2)) := (blk_cell BK121.out 2).trans rfl
                          have hcz60_3 : wc.cell? ⟨gb121, 3, none⟩ = some (.string ((rd_T41 l0_1 a1).f3)) := (blk_cell BK121.out 3).trans rfl
                          have hcz60_4 : wc.cell? ⟨gb121, 4, none⟩ = some (.int .i64 ((rd_T41 l0_1 a1).f4)) := (blk_cell BK121.out 4).trans rfl
                          have hcz60_5 : wc.cell? ⟨gb121, 5, none⟩ = some (.int .i64 ((rd_T41 l0_1 a1).f5)) := (blk_cell BK121.out 5).trans rfl
                          have hcz60_6 : wc.cell? ⟨gb121, 6, none⟩ = some (.bool ((rd_T41 l0_1 a1).f6)) := (blk_cell BK121.out 6).trans rfl
                          have hfz60_0 := blk_frozen BK121.out 0
                          have hfz60_1 := blk_frozen BK121.out 1
                          have hfz60_2 := blk_frozen BK121.out 2
                          have hfz60_3 := blk_frozen BK121.out 3
                          have hfz60_4 := blk_frozen BK121.out 4
                          have hfz60_5 := blk_frozen BK121.out 5
                          have hfz60_6 := blk_frozen BK121.out 6
                          go_wp2_with (first | ((with_reducible refine gate_builtin (b := .append) (xs := #[.tmp 69, .tmp 75]) rfl ?_); at_builtin; refine Kd.R_append k43 (w0 := w0) w0.heap.size rfl (.tmp 69) (.tmp 75) 26 43 (.agg #[(.int .i64 0), (.int .i64 0), (.int .i64 0)]) 24 rfl Try.underlying26 info43 rfl (by decide) (by omega) u3 x3_1 (⟨((rd_T41 l0_1 a1).f0), x15_51, x2_1⟩ : S43) [.int .i64 ((rd_T41 l0_1 a1).f0), .int .i64 x15_51, .int .i64 x2_1] (fun k_ => (P3_ k_ ∨ w.heap.size ≤ k_)) (fun _ => False) rfl rfl ?aP (fun _ hk => hk.elim) ?aF ?aO ?aB ?aS ?aL ?_; (case aP => exact k43_mkM _ _ _ (⟨((rd_T41 l0_1 a1).f0), x15_51, x2_1⟩ : S43)); (case aB => exact (by repeat (first | (with_reducible first | exact HB.out | apply below_alloc | apply pw_below_drewN | apply below_drew1 | refine below_set ?_ GE119.out | refine below_set ?_ GE121.out) | exact HB.out))); (case aF => exact (fun k_ hk => (.inr (Nat.le_trans (by first | exact HK.out.1 | exact (show Kept w _ (fun k_ => P3_ k_) from by repeat (first | (with_reducible first | exact HK.out | apply Kept.alloc | apply Kept.drewN | apply Kept.drew | refine Kept.setCell ?_ (.inr GW119.out) _ | refine Kept.setCell ?_ (.inr GW121.out) _) | exact HK.out)).1) hk)))); (case aO => exact (by (with_reducible repeat (first | apply Kd.R_alloc | apply Kd.R_drewN | apply Kd.R_drew)); exact HO_3.out)); (case aS => exact (below_size (by repeat (first | (with_reducible first | exact HB.out | apply below_alloc | apply pw_below_drewN | apply below_drew1 | refine below_set ?_ GE119.out | refine below_set ?_ GE121.out) | exact HB.out)))); (case aL => have := LMc57.out; omega); intro v126 w61 ho hb hg hat; rw [← Ny125.out] at ho; have n0_ := Aside0.mk (blk_grown (g := gb119) (o := .cells #[.int .i64 a0_0, .slice (some ad120) l0_1.length c0_1] 30 (0, 0)) (by (with_reducible repeat (first | refine blk_drewN ?_ _ | refine blk_drew ?_ | refine blk_alloc ?_ _)); exact BK119.out) hg (Kd.R_ne HO_3.out BK119.out (by decide))); have n1_ := Aside0.mk (blk_grown (g := gb121) (o := .cells #[.int .i64 ((rd_T41 l0_1 a1).f0), .int .i64 ((rd_T41 l0_1 a1).f1), .string ((rd_T41 l0_1 a1).f2), .string ((rd_T41 l0_1 a1).f3), .int .i64 ((rd_T41 l0_1 a1).f4), .int .i64 ((rd_T41 l0_1 a1).f5), .bool ((rd_T41 l0_1 a1).f6)] 41 (0, 0)) (by (with_reducible repeat (first | refine blk_drewN ?_ _ | refine blk_drew ?_ | refine blk_alloc ?_ _)); exact BK121.out) hg (Kd.R_ne HO_3.out BK121.out (by decide))); have n2_ := Aside0.mk (hb); have n3_ := Aside0.mk (Kept.of_grown (S := (fun k_ => P3_ k_)) hg (by repeat (first | (with_reducible first | exact HK.out | apply Kept.alloc | apply Kept.drewN | apply Kept.drew | refine Kept.setCell ?_ (.inr GW119.out) _ | refine Kept.setCell ?_ (.inr GW121.out) _) | exact HK.out)) (fun k_ e_ => (HO_3.out.1 k_ e_))); have n4_ := Aside0.mk (ho); clear BK119; clear BK121; clear HB; clear HK; clear HO_3; have BK119 := n0_; have BK121 := n1_; have HB := n2_; have HK := n3_; have HO127 := n4_; clear n0_ n1_ n2_ n3_ n4_; clear ho hb hg hat))
                          go_ret
                          exact ⟨_, by first | rfl | (simp [bne]; done) | (simp [errW_none, errW_some] <;> rfl) | (simp [*, errW_none, errW_some] <;> rfl), by (with_reducible repeat (first | apply Kd.R_alloc | apply Kd.R_drewN | apply Kd.R_drew)); exact HO127.out, by repeat (first | (with_reducible first | exact HB.out | apply below_alloc | apply pw_below_drewN | apply below_drew1 | refine below_set ?_ GE119.out | refine below_set ?_ GE121.out) | exact HB.out), by repeat (first | (with_reducible first | exact HK.out | apply Kept.alloc | apply Kept.drewN | apply Kept.drew | refine Kept.setCell ?_ (.inr GW119.out) _ | refine Kept.setCell ?_ (.inr GW121.out) _) | exact HK.out)⟩
                        · rw [if_neg c58] at H
                          have c58b0 : decide (x10_2 < 0) = false := decide_eq_false c58
                          clear c58
                          replace H := Option.bind_eq_some_iff.mp H
                          obtain ⟨t128, A620, H⟩ := H
                          replace H : (if 0 ≤ x10_2 then (if x10_2 < (l0_1.length : Int) then (spec_l23Path.l0 kj51 ((rd_T41 l0_1 x10_2).f4) t128 a0_0 l0_1 ((rd_T41 l0_1 a1).f0) ((rd_T41 l0_1 a1).f1) ((rd_T41 l0_1 a1).f2) ((rd_T41 l0_1 a1).f3) ((rd_T41 l0_1 a1).f4) ((rd_T41 l0_1 a1).f5) ((rd_T41 l0_1 a1).f6)) else (none)) else (none)) = some r := H
                          have A62 := Aside0.mk A620
                          clear A620
                          by_cases c63 : 0 ≤ x10_2
                          · rw [if_pos c63] at H
                            have c63b0 : decide (0 ≤ x10_2) = true := decide_eq_true c63
                            clear c63
                            by_cases c64 : x10_2 < (l0_1.length : Int)
                            · rw [if_pos c64] at H
                              have c64b0 : decide (x10_2 < (l0_1.length : Int)) = true := decide_eq_true c64
                              clear c64
                              have H' := Aside0.mk H
                              clear H
                              have hnb65 := NB121_119.out
                              have hnc65 := NB119_121.out
                              have hcz66_0 : wc.cell? ⟨gb121, 0, none⟩ = some (.int .i64 ((rd_T41 l0_1 a1).f0)) := (blk_cell BK121.out 0).trans rfl
                              have hcz66_1 : wc.cell? ⟨gb121, 1, none⟩ = some (.int .i64 ((rd_T41 l0_1 a1).f1)) := (blk_cell BK121.out 1).trans rfl
                              have hcz66_2 : wc.cell? ⟨gb121, 2, none⟩ = some (.string ((rd_T41 l0_1 a1).f2)) := (blk_cell BK121.out 2).trans rfl
                              have hcz66_3 : wc.cell? ⟨gb121, 3, none⟩ = some (.string ((rd_T41 l0_1 a1).f3)) := (blk_cell BK121.out 3).trans rfl
                              have hcz66_4 : wc.cell? ⟨gb121, 4, none⟩ = some (.int .i64 ((rd_T41 l0_1 a1).f4)) := (blk_cell BK121.out 4).trans rfl
                              have hcz66_5 : wc.cell? ⟨gb121, 5, none⟩ = some (.int .i64 ((rd_T41 l0_1 a1).f5)) := (blk_cell BK121.out 5).trans rfl
                              have hcz66_6 : wc.cell? ⟨gb121, 6, none⟩ = some (.bool ((rd_T41 l0_1 a1).f6)) := (blk_cell BK121.out 6).trans rfl
                              have hfz66_0 := blk_frozen BK121.out 0
                              have hfz66_1 := blk_frozen BK121.out 1
                              have hfz66_2 := blk_frozen BK121.out 2
                              have hfz66_3 := blk_frozen BK121.out 3
                              have hfz66_4 := blk_frozen BK121.out 4
                              have hfz66_5 := blk_frozen BK121.out 5
                              have hfz66_6 := blk_frozen BK121.out 6
                              go_wp2_with (first | ((with_reducible refine gate_builtin (b := .append) (xs := #[.tmp 69, .tmp 75]) rfl ?_); at_builtin; refine Kd.R_append k43 (w0 := w0) w0.heap.size rfl (.tmp 69) (.tmp 75) 26 43 (.agg #[(.int .i64 0), (.int .i64 0), (.int .i64 0)]) 24 rfl Try.underlying26 info43 rfl (by decide) (by omega) u3 x3_1 (⟨((rd_T41 l0_1 a1).f0), x15_51, x2_1⟩ : S43) [.int .i64 ((rd_T41 l0_1 a1).f0), .int .i64 x15_51, .int .i64 x2_1] (fun k_ => (P3_ k_ ∨ w.heap.size ≤ k_)) (fun _ => False) rfl rfl ?aP (fun _ hk => hk.elim) ?aF ?aO ?aB ?aS ?aL ?_; (case aP => exact k43_mkM _ _ _ (⟨((rd_T41 l0_1 a1).f0), x15_51, x2_1⟩ : S43)); (case aB => exact (by repeat (first | (with_reducible first | exact HB.out | apply below_alloc | apply pw_below_drewN | apply below_drew1 | refine below_set ?_ GE119.out | refine below_set ?_ GE121.out) | exact HB.out))); (case aF => exact (fun k_ hk => (.inr (Nat.le_trans (by first | exact HK.out.1 | exact (show Kept w _ (fun k_ => P3_ k_) from by repeat (first | (with_reducible first | exact HK.out | apply Kept.alloc | apply Kept.drewN | apply Kept.drew | refine Kept.setCell ?_ (.inr GW119.out) _ | refine Kept.setCell ?_ (.inr GW121.out) _) | exact HK.out)).1) hk)))); (case aO => exact (by (with_reducible repeat (first | apply Kd.R_alloc | apply Kd.R_drewN | apply Kd.R_drew)); exact HO_3.out)); (case aS => exact (below_size (by repeat (first | (with_reducible first | exact HB.out | apply below_alloc | apply pw_below_drewN | apply below_drew1 | refine below_set ?_ GE119.out | refine below_set ?_ GE121.out) | exact HB.out)))); (case aL => have := LMc57.out; omega); intro v126 w67 ho hb hg hat; rw [← Ny125.out] at ho; have n0_ := Aside0.mk (blk_grown (g := gb119) (o := .cells #[.int .i64 a0_0, .slice (some ad120) l0_1.length c0_1] 30 (0, 0)) (by (with_reducible repeat (first | refine blk_drewN ?_ _ | refine blk_drew ?_ | refine blk_alloc ?_ _)); exact BK119.out) hg (Kd.R_ne HO_3.out BK119.out (by decide))); have n1_ := Aside0.mk (blk_grown (g := gb121) (o := .cells #[.int .i64 ((rd_T41 l0_1 a1).f0), .int .i64 ((rd_T41 l0_1 a1).f1), .string ((rd_T41 l0_1 a1).f2), .string ((rd_T41 l0_1 a1).f3), .int .i64 ((rd_T41 l0_1 a1).f4), .int .i64 ((rd_T41 l0_1 a1).f5), .bool ((rd_T41 l0_1 a1).f6)] 41 (0, 0)) (by (with_reducible repeat (first | refine blk_drewN ?_ _ | refine blk_drew ?_ | refine blk_alloc ?_ _)); exact BK121.out) hg (Kd.R_ne HO_3.out BK121.out (by decide))); have n2_ := Aside0.mk (hb); have n3_ := Aside0.mk (Kept.of_grown (S := (fun k_ => P3_ k_)) hg (by repeat (first | (with_reducible first | exact HK.out | apply Kept.alloc | apply Kept.drewN | apply Kept.drew | refine Kept.setCell ?_ (.inr GW119.out) _ | refine Kept.setCell ?_ (.inr GW121.out) _) | exact HK.out)) (fun k_ e_ => (HO_3.out.1 k_ e_))); have n4_ := Aside0.mk (ho); clear BK119; clear BK121; clear HB; clear HK; clear HO_3; have BK119 := n0_; have BK121 := n1_; have HB := n2_; have HK := n3_; have HO127 := n4_; clear n0_ n1_ n2_ n3_ n4_; clear ho hb hg hat; have hcz68_0 : w67.cell? ⟨gb119, 0, none⟩ = some (.int .i64 a0_0) := (blk_cell BK119.out 0).trans rfl; have hcz68_1 : w67.cell? ⟨gb119, 1, none⟩ = some (.slice (some ad120) l0_1.length c0_1) := (blk_cell BK119.out 1).trans rfl; have hfz68_0 := blk_frozen BK119.out 0; have hfz68_1 := blk_frozen BK119.out 1; obtain ⟨Ao69, co69, eo69⟩ := Kd.R_slice HO127.out; subst eo69) | ((with_reducible refine gate_callee (f := 15) rfl ?_); refine goesL_ (some 84) rfl rfl Try.func15 (by kernel_rfl) rfl #[.agg #[.int .i64 a0_0, .slice (some ad120) l0_1.length c0_1], .int .i64 x10_2, .int .i64 x11_2, .slice Ao69 y125.length co69] rfl (by (try simp only [List.map_toArray, List.map_cons, List.map_nil]); first | done | rfl | (simp only [List.length_drop, List.length_take]; rfl)) ?_; (with_reducible refine (ih kj51 (by have := HK1.out; have := HK2.out; have := HJ51.out; omega) a0_0 _ _ l0_1 x10_2 x11_2 (fun k_ => some k_ = (.slice Ao69 y125.length co69 : Value).ownBlock) (.slice Ao69 y125.length co69) y125 t128 w0 _ ?side1 ?side2 ?side3 ?side4 A62.out).mono ?_); (case side1 => repeat (first | (with_reducible first | exact HB.out | apply below_alloc | apply pw_below_drewN | apply below_drew1 | refine below_set ?_ GE119.out | refine below_set ?_ GE121.out) | exact HB.out)); (case side2 => exact Kd.C_kept_call HR0_1.out (by repeat (first | (with_reducible first | exact HK.out | apply Kept.alloc | apply Kept.drewN | apply Kept.drew | refine Kept.setCell ?_ (.inr GW119.out) _ | refine Kept.setCell ?_ (.inr GW121.out) _) | exact HK.out)) (fun k_ hs_ => (fun e_ => (HO127.out.1 k_ e_.symm)) hs_)); (case side3 => exact HC0_1.out); (case side4 => exact Kd.R_tight rfl HO127.out); rintro e w70 ⟨v129, rfl, ho0, hb, hkp⟩; refine ⟨_, rfl, ?_⟩; have n0_ := Aside0.mk (blk_kept (by (with_reducible repeat (first | refine blk_drewN ?_ _ | refine blk_drew ?_ | refine blk_alloc ?_ _)); exact BK119.out) hkp (fun hs_ => (fun e_ => (Kd.R_ne HO127.out BK119.out (by decide)) e_) hs_)); have n1_ := Aside0.mk (blk_kept (by (with_reducible repeat (first | refine blk_drewN ?_ _ | refine blk_drew ?_ | refine blk_alloc ?_ _)); exact BK121.out) hkp (fun hs_ => (fun e_ => (Kd.R_ne HO127.out BK121.out (by decide)) e_) hs_)); have n2_ := Aside0.mk (Kd.R_mono (ok' := fun k_ => (P3_ k_ ∨ w.heap.size ≤ k_)) ho0 (fun k_ hk_ => Or.elim hk_ (fun hs_ => (HO127.out.1 k_ (hs_).symm)) (fun hn_ => (.inr (Nat.le_trans (by first | exact HK.out.1 | exact (show Kept w _ (fun k_ => P3_ k_) from by repeat (first | (with_reducible first | exact HK.out | apply Kept.alloc | apply Kept.drewN | apply Kept.drew | refine Kept.setCell ?_ (.inr GW119.out) _ | refine Kept.setCell ?_ (.inr GW121.out) _) | exact HK.out)).1) hn_))))); have n3_ := Aside0.mk (Kept.then_ (S := (fun k_ => P3_ k_)) (by repeat (first | (with_reducible first | exact HK.out | apply Kept.alloc | apply Kept.drewN | apply Kept.drew | refine Kept.setCell ?_ (.inr GW119.out) _ | refine Kept.setCell ?_ (.inr GW121.out) _) | exact HK.out)) hkp (fun k_ hs_ => (fun e_ => (HO127.out.1 k_ e_.symm)) hs_)); have n4_ := Aside0.mk (hb); clear BK119; clear BK121; clear HK; clear HB; clear HO127; have BK119 := n0_; have BK121 := n1_; have HO130 := n2_; have HK := n3_; have HB := n4_; clear n0_ n1_ n2_ n3_ n4_; (try clear hb); (try clear hkp); (try clear ho0); have hcz71_0 : w70.cell? ⟨gb119, 0, none⟩ = some (.int .i64 a0_0) := (blk_cell BK119.out 0).trans rfl; have hcz71_1 : w70.cell? ⟨gb119, 1, none⟩ = some (.slice (some ad120) l0_1.length c0_1) := (blk_cell BK119.out 1).trans rfl; have hfz71_0 := blk_frozen BK119.out 0; have hfz71_1 := blk_frozen BK119.out 1; have p131 : 0 ≤ (x10_2 : Int) := of_decide_eq_true (by first | (with_reducible assumption) | assumption); have q131 : x10_2 < (l0_1.length : Int) := of_decide_eq_true (by first | (with_reducible assumption) | assumption); obtain ⟨ad131, e131, hx131_0, hx131_1, hx131_2, hx131_3, hx131_4, hx131_5, hx131_6⟩ := at_T41 (Kd.C_kept_now HR0_1.out HK.out) x10_2 p131 q131; obtain rfl : ad120 = ad131 := (by injection e131); replace p131 := eq_true p131; replace q131 := eq_true q131))
                              go_roundg kj51
                              case measure => have := HK1.out; have := HK2.out; have := HJ51.out; omega
                              case rel => exact ⟨((rd_T41 l0_1 x10_2).f4), (t128), (by first | rfl | (simp; done) | (simp [*]; done)), H', ⟨by have := HK1.out; have := HK2.out; have := HJ51.out; omega⟩, ⟨by (with_reducible repeat (first | apply Kd.R_alloc | apply Kd.R_drewN | apply Kd.R_drew)); exact HO130.out⟩, ⟨by (with_reducible repeat (first | refine blk_drewN ?_ _ | refine blk_drew ?_ | refine blk_alloc ?_ _)); exact BK119.out⟩, ⟨by (with_reducible repeat (first | refine blk_drewN ?_ _ | refine blk_drew ?_ | refine blk_alloc ?_ _)); exact BK121.out⟩, ⟨by repeat (first | (with_reducible first | exact HK.out | apply Kept.alloc | apply Kept.drewN | apply Kept.drew | refine Kept.setCell ?_ (.inr GW119.out) _ | refine Kept.setCell ?_ (.inr GW121.out) _) | exact HK.out)⟩, ⟨by repeat (first | (with_reducible first | exact HB.out | apply below_alloc | apply pw_below_drewN | apply below_drew1 | refine below_set ?_ GE119.out | refine below_set ?_ GE121.out) | exact HB.out)⟩⟩
                            · rw [if_neg c64] at H
                              exact absurd H (by simp)
                          · rw [if_neg c63] at H
                            exact absurd H (by simp)
                      · rw [if_neg c57] at H
                        exact absurd H (by simp)
                    · rw [if_neg c56] at H
                      have c56b0 : decide (x15_51 < x2_1) = false := decide_eq_false c56
                      clear c56
                      by_cases c72 : x10_2 < 0
                      · rw [if_pos c72] at H
                        have c72b0 : decide (x10_2 < 0) = true := decide_eq_true c72
                        clear c72
                        obtain rfl := Option.some.inj H
                        go_wp2
                        go_ret
                        exact ⟨_, by first | rfl | (simp [bne]; done) | (simp [errW_none, errW_some] <;> rfl) | (simp [*, errW_none, errW_some] <;> rfl), by (with_reducible repeat (first | apply Kd.R_alloc | apply Kd.R_drewN | apply Kd.R_drew)); exact HO_3.out, by repeat (first | (with_reducible first | exact HB.out | apply below_alloc | apply pw_below_drewN | apply below_drew1 | refine below_set ?_ GE119.out | refine below_set ?_ GE121.out) | exact HB.out), by repeat (first | (with_reducible first | exact HK.out | apply Kept.alloc | apply Kept.drewN | apply Kept.drew | refine Kept.setCell ?_ (.inr GW119.out) _ | refine Kept.setCell ?_ (.inr GW121.out) _) | exact HK.out)⟩
                      · rw [if_neg c72] at H
                        have c72b0 : decide (x10_2 < 0) = false := decide_eq_false c72
                        clear c72
                        replace H := Option.bind_eq_some_iff.mp H
                        obtain ⟨t132, A730, H⟩ := H
                        replace H : (if 0 ≤ x10_2 then (if x10_2 < (l0_1.length : Int) then (spec_l23Path.l0 kj51 ((rd_T41 l0_1 x10_2).f4) t132 a0_0 l0_1 ((rd_T41 l0_1 a1).f0) ((rd_T41 l0_1 a1).f1) ((rd_T41 l0_1 a1).f2) ((rd_T41 l0_1 a1).f3) ((rd_T41 l0_1 a1).f4) ((rd_T41 l0_1 a1).f5) ((rd_T41 l0_1 a1).f6)) else (none)) else (none)) = some r := H
                        have A73 := Aside0.mk A730
                        clear A730
                        by_cases c74 : 0 ≤ x10_2
                        · rw [if_pos c74] at H
                          have c74b0 : decide (0 ≤ x10_2) = true := decide_eq_true c74
                          clear c74
                          by_cases c75 : x10_2 < (l0_1.length : Int)
                          · rw [if_pos c75] at H
                            have c75b0 : decide (x10_2 < (l0_1.length : Int)) = true := decide_eq_true c75
                            clear c75
                            have H' := Aside0.mk H
                            clear H
                            have hnb76 := NB119_121.out
                            have hnc76 := NB121_119.out
                            have hcz77_0 : wc.cell? ⟨gb119, 0, none⟩ = some (.int .i64 a0_0) := (blk_cell BK119.out 0).trans rfl
                            have hcz77_1 : wc.cell? ⟨gb119, 1, none⟩ = some (.slice (some ad120) l0_1.length c0_1) := (blk_cell BK119.out 1).trans rfl
                            have hfz77_0 := blk_frozen BK119.out 0
                            have hfz77_1 := blk_frozen BK119.out 1
                            obtain ⟨Ao78, co78, eo78⟩ := Kd.R_slice HO_3.out
                            subst eo78
                            go_wp2_with (first | ((with_reducible refine gate_callee (f := 15) rfl ?_); refine goesL_ (some 84) rfl rfl Try.func15 (by kernel_rfl) rfl #[.agg #[.int .i64 a0_0, .slice (some ad120) l0_1.length c0_1], .int .i64 x10_2, .int .i64 x11_2, .slice Ao78 x3_1.length co78] rfl (by (try simp only [List.map_toArray, List.map_cons, List.map_nil]); first | done | rfl | (simp only [List.length_drop, List.length_take]; rfl)) ?_; (with_reducible refine (ih kj51 (by have := HK1.out; have := HK2.out; have := HJ51.out; omega) a0_0 _ _ l0_1 x10_2 x11_2 (fun k_ => some k_ = (.slice Ao78 x3_1.length co78 : Value).ownBlock) (.slice Ao78 x3_1.length co78) x3_1 t132 w0 _ ?side1 ?side2 ?side3 ?side4 A73.out).mono ?_); (case side1 => repeat (first | (with_reducible first | exact HB.out | apply below_alloc | apply pw_below_drewN | apply below_drew1 | refine below_set ?_ GE119.out | refine below_set ?_ GE121.out) | exact HB.out)); (case side2 => exact Kd.C_kept_call HR0_1.out (by repeat (first | (with_reducible first | exact HK.out | apply Kept.alloc | apply Kept.drewN | apply Kept.drew | refine Kept.setCell ?_ (.inr GW119.out) _ | refine Kept.setCell ?_ (.inr GW121.out) _) | exact HK.out)) (fun k_ hs_ => (fun e_ => (HO_3.out.1 k_ e_.symm)) hs_)); (case side3 => exact HC0_1.out); (case side4 => exact Kd.R_tight rfl HO_3.out); rintro e w79 ⟨v133, rfl, ho0, hb, hkp⟩; refine ⟨_, rfl, ?_⟩; have n0_ := Aside0.mk (blk_kept (by (with_reducible repeat (first | refine blk_drewN ?_ _ | refine blk_drew ?_ | refine blk_alloc ?_ _)); exact BK119.out) hkp (fun hs_ => (fun e_ => (Kd.R_ne HO_3.out BK119.out (by decide)) e_) hs_)); have n1_ := Aside0.mk (blk_kept (by (with_reducible repeat (first | refine blk_drewN ?_ _ | refine blk_drew ?_ | refine blk_alloc ?_ _)); exact BK121.out) hkp (fun hs_ => (fun e_ => (Kd.R_ne HO_3.out BK121.out (by decide)) e_) hs_)); have n2_ := Aside0.mk (Kd.R_mono (ok' := fun k_ => (P3_ k_ ∨ w.heap.size ≤ k_)) ho0 (fun k_ hk_ => Or.elim hk_ (fun hs_ => (HO_3.out.1 k_ (hs_).symm)) (fun hn_ => (.inr (Nat.le_trans (by first | exact HK.out.1 | exact (show Kept w _ (fun k_ => P3_ k_) from by repeat (first | (with_reducible first | exact HK.out | apply Kept.alloc | apply Kept.drewN | apply Kept.drew | refine Kept.setCell ?_ (.inr GW119.out) _ | refine Kept.setCell ?_ (.inr GW121.out) _) | exact HK.out)).1) hn_))))); have n3_ := Aside0.mk (Kept.then_ (S := (fun k_ => P3_ k_)) (by repeat (first | (with_reducible first | exact HK.out | apply Kept.alloc | apply Kept.drewN | apply Kept.drew | refine Kept.setCell ?_ (.inr GW119.out) _ | refine Kept.setCell ?_ (.inr GW121.out) _) | exact HK.out)) hkp (fun k_ hs_ => (fun e_ => (HO_3.out.1 k_ e_.symm)) hs_)); have n4_ := Aside0.mk (hb); clear BK119; clear BK121; clear HK; clear HB; clear HO_3; have BK119 := n0_; have BK121 := n1_; have HO134 := n2_; have HK := n3_; have HB := n4_; clear n0_ n1_ n2_ n3_ n4_; (try clear hb); (try clear hkp); (try clear ho0); have hcz80_0 : w79.cell? ⟨gb119, 0, none⟩ = some (.int .i64 a0_0) := (blk_cell BK119.out 0).trans rfl; have hcz80_1 : w79.cell? ⟨gb119, 1, none⟩ = some (.slice (some ad120) l0_1.length c0_1) := (blk_cell BK119.out 1).trans rfl; have hfz80_0 := blk_frozen BK119.out 0; have hfz80_1 := blk_frozen BK119.out 1; have p135 : 0 ≤ (x10_2 : Int) := of_decide_eq_true (by first | (with_reducible assumption) | assumption); have q135 : x10_2 < (l0_1.length : Int) := of_decide_eq_true (by first | (with_reducible assumption) | assumption); obtain ⟨ad135, e135, hx135_0, hx135_1, hx135_2, hx135_3, hx135_4, hx135_5, hx135_6⟩ := at_T41 (Kd.C_kept_now HR0_1.out HK.out) x10_2 p135 q135; obtain rfl : ad120 = ad135 := (by injection e135); replace p135 := eq_true p135; replace q135 := eq_true q135))
                            go_roundg kj51
                            case measure => have := HK1.out; have := HK2.out; have := HJ51.out; omega
                            case rel => exact ⟨((rd_T41 l0_1 x10_2).f4), (t132), (by first | rfl | (simp; done) | (simp [*]; done)), H', ⟨by have := HK1.out; have := HK2.out; have := HJ51.out; omega⟩, ⟨by (with_reducible repeat (first | apply Kd.R_alloc | apply Kd.R_drewN | apply Kd.R_drew)); exact HO134.out⟩, ⟨by (with_reducible repeat (first | refine blk_drewN ?_ _ | refine blk_drew ?_ | refine blk_alloc ?_ _)); exact BK119.out⟩, ⟨by (with_reducible repeat (first | refine blk_drewN ?_ _ | refine blk_drew ?_ | refine blk_alloc ?_ _)); exact BK121.out⟩, ⟨by repeat (first | (with_reducible first | exact HK.out | apply Kept.alloc | apply Kept.drewN | apply Kept.drew | refine Kept.setCell ?_ (.inr GW119.out) _ | refine Kept.setCell ?_ (.inr GW121.out) _) | exact HK.out)⟩, ⟨by repeat (first | (with_reducible first | exact HB.out | apply below_alloc | apply pw_below_drewN | apply below_drew1 | refine below_set ?_ GE119.out | refine below_set ?_ GE121.out) | exact HB.out)⟩⟩
                          · rw [if_neg c75] at H
                            exact absurd H (by simp)
                        · rw [if_neg c74] at H
                          exact absurd H (by simp)
    · rw [if_neg c6] at H
      exact absurd H (by simp)
  · rw [if_neg c5] at H
    exact absurd H (by simp)

end Go.Proofs.Ytcfijablfjbimaa.PFnExactCriticalPath
