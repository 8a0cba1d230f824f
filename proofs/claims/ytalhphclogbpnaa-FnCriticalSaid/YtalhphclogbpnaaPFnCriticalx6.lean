-- Written by a program of this repo (myprint: the kit's print with functions given by hand).
import Derived.Test.YtalhphclogbpnaaPFnCriticalx0
import Derived.Test.YtalhphclogbpnaaPFnCriticalx5
import Derived.Test.YtalhphclogbpnaaHSpecTrace
namespace Go.Proofs.Ytalhphclogbpnaa.PFnCritical
attribute [local go_sem] Go.Proofs.Ytalhphclogbpnaa.Cmp.str_gtr Go.Proofs.Ytalhphclogbpnaa.Cmp.str_geq Go.Proofs.Ytalhphclogbpnaa.Cmp.str_leq
open Go.RowKit Go.Proofs.YtalhphclogbpnaaW.PrintWords Go.Proofs.YtalhphclogbpnaaW.PrintLast Go.Proofs.YtalhphclogbpnaaW.PrintMore
attribute [local go_sem] max2_int min2_int max_two min_two max_three min_three max_four min_four   -- for this text's walks alone
set_option linter.unusedVariables false
set_option linter.unusedSimpArgs false

/-! ### spec_SelfTimes: function 9 -/
mutual
def spec_SelfTimes.l0 : Nat → List Int → List (S34) → Int → Int → Int → List (S34) → Option (List Int)
 | 0, _, _, _, _, _, _ => none
 | k + 1, x3, x19, x20, x21, x197000, x197001 => if x21 < x20 then (if 0 ≤ x21 then (if x21 < (x19.length : Int) then (spec_SelfTimes.l1 k x3 (([(⟨(rd_T34 x19 x21).f4, (rd_T34 x19 x21).f5⟩ : S55)] : List (S55))) x19 x20 x21 x197001 (x197001.length : Int) 0 x197000 x197001 ((rd_T34 x19 x21).f0) ((rd_T34 x19 x21).f1) ((rd_T34 x19 x21).f2) ((rd_T34 x19 x21).f3) ((rd_T34 x19 x21).f4) ((rd_T34 x19 x21).f5) ((rd_T34 x19 x21).f6)) else (none)) else (none)) else (some x3)
def spec_SelfTimes.l1 : Nat → List Int → List (S55) → List (S34) → Int → Int → List (S34) → Int → Int → Int → List (S34) → Int → Int → ByteArray → ByteArray → Int → Int → Bool → Option (List Int)
 | 0, _, _, _, _, _, _, _, _, _, _, _, _, _, _, _, _, _ => none
 | k + 1, x3, x6, x19, x20, x21, x32, x33, x34, x197000, x197001, x200000, x200001, x200002, x200003, x200004, x200005, x200006 => if x34 < x33 then (if 0 ≤ x34 then (if x34 < (x32.length : Int) then (if ((rd_T34 x32 x34).f1) = x200000 then (spec_SelfTimes.l2 k x3 ([] : List (S55)) x19 x20 x21 x32 x33 x34 x6 (x6.length : Int) 0 x197000 x197001 x200000 x200001 x200002 x200003 x200004 x200005 x200006 ((rd_T34 x32 x34).f0) ((rd_T34 x32 x34).f1) ((rd_T34 x32 x34).f2) ((rd_T34 x32 x34).f3) ((rd_T34 x32 x34).f4) ((rd_T34 x32 x34).f5) ((rd_T34 x32 x34).f6)) else (spec_SelfTimes.l1 k x3 x6 x19 x20 x21 x32 x33 (wrap64 (x34 + 1)) x197000 x197001 x200000 x200001 x200002 x200003 x200004 x200005 x200006)) else (none)) else (none)) else (spec_SelfTimes.l3 k x3 0 x19 x20 x21 x6 (x6.length : Int) 0 x197000 x197001)
def spec_SelfTimes.l2 : Nat → List Int → List (S55) → List (S34) → Int → Int → List (S34) → Int → Int → List (S55) → Int → Int → Int → List (S34) → Int → Int → ByteArray → ByteArray → Int → Int → Bool → Int → Int → ByteArray → ByteArray → Int → Int → Bool → Option (List Int)
 | 0, _, _, _, _, _, _, _, _, _, _, _, _, _, _, _, _, _, _, _, _, _, _, _, _, _, _, _ => none
 | k + 1, x3, x9, x19, x20, x21, x32, x33, x34, x43, x44, x45, x197000, x197001, x200000, x200001, x200002, x200003, x200004, x200005, x200006, x205000, x205001, x205002, x205003, x205004, x205005, x205006 => if x45 < x44 then (if 0 ≤ x45 then (if x45 < (x43.length : Int) then (if x205004 > ((rd_T55 x43 x45).f0) then ((spec_l23Less.f ((rd_T55 x43 x45).f1) x205004).bind fun t207 => (if x9.length < 8796093022208 then ((some (x9 ++ [(⟨(rd_T55 x43 x45).f0, t207⟩ : S55)] : List (S55))).bind fun y208 => (if x205005 < ((rd_T55 x43 x45).f1) then ((spec_l23More.f ((rd_T55 x43 x45).f0) x205005).bind fun t211 => (if y208.length < 8796093022208 then (spec_SelfTimes.l2 k x3 (y208 ++ [(⟨t211, (rd_T55 x43 x45).f1⟩ : S55)]) x19 x20 x21 x32 x33 x34 x43 x44 (wrap64 (x45 + 1)) x197000 x197001 x200000 x200001 x200002 x200003 x200004 x200005 x200006 x205000 x205001 x205002 x205003 x205004 x205005 x205006) else (none))) else (spec_SelfTimes.l2 k x3 y208 x19 x20 x21 x32 x33 x34 x43 x44 (wrap64 (x45 + 1)) x197000 x197001 x200000 x200001 x200002 x200003 x200004 x200005 x200006 x205000 x205001 x205002 x205003 x205004 x205005 x205006))) else (none))) else (if x205005 < ((rd_T55 x43 x45).f1) then ((spec_l23More.f ((rd_T55 x43 x45).f0) x205005).bind fun t215 => (if x9.length < 8796093022208 then (spec_SelfTimes.l2 k x3 (x9 ++ [(⟨t215, (rd_T55 x43 x45).f1⟩ : S55)]) x19 x20 x21 x32 x33 x34 x43 x44 (wrap64 (x45 + 1)) x197000 x197001 x200000 x200001 x200002 x200003 x200004 x200005 x200006 x205000 x205001 x205002 x205003 x205004 x205005 x205006) else (none))) else (spec_SelfTimes.l2 k x3 x9 x19 x20 x21 x32 x33 x34 x43 x44 (wrap64 (x45 + 1)) x197000 x197001 x200000 x200001 x200002 x200003 x200004 x200005 x200006 x205000 x205001 x205002 x205003 x205004 x205005 x205006))) else (none)) else (none)) else (spec_SelfTimes.l1 k x3 x9 x19 x20 x21 x32 x33 (wrap64 (x34 + 1)) x197000 x197001 x200000 x200001 x200002 x200003 x200004 x200005 x200006)
def spec_SelfTimes.l3 : Nat → List Int → Int → List (S34) → Int → Int → List (S55) → Int → Int → Int → List (S34) → Option (List Int)
 | 0, _, _, _, _, _, _, _, _, _, _ => none
 | k + 1, x3, x12, x19, x20, x21, x84, x85, x86, x197000, x197001 => if x86 < x85 then (if 0 ≤ x86 then (if x86 < (x84.length : Int) then (if ((rd_T55 x84 x86).f1) > ((rd_T55 x84 x86).f0) then (spec_SelfTimes.l3 k x3 (wrap64 (x12 + (wrap64 (((rd_T55 x84 x86).f1) - ((rd_T55 x84 x86).f0))))) x19 x20 x21 x84 x85 (wrap64 (x86 + 1)) x197000 x197001) else (spec_SelfTimes.l3 k x3 x12 x19 x20 x21 x84 x85 (wrap64 (x86 + 1)) x197000 x197001)) else (none)) else (none)) else (if x3.length < 17592186044416 then (spec_SelfTimes.l0 k (x3 ++ [x12]) x19 x20 (wrap64 (x21 + 1)) x197000 x197001) else (none))
end
def spec_SelfTimes.f (k : Nat) (a0_0 : Int) (l0_1 : List (S34)) : Option (List Int) := (spec_GoodTrace.f a0_0 l0_1).bind fun t197 => (if t197 = true then (spec_SelfTimes.l0 k ([] : List Int) l0_1 (l0_1.length : Int) 0 a0_0 l0_1) else (some ([] : List Int)))
theorem spec_SelfTimes.mono_l : ∀ k, (∀ y0 y1 y2 y3 y4 y5, LeO (spec_SelfTimes.l0 k y0 y1 y2 y3 y4 y5) (spec_SelfTimes.l0 (k + 1) y0 y1 y2 y3 y4 y5)) ∧ (∀ y0 y1 y2 y3 y4 y5 y6 y7 y8 y9 y10 y11 y12 y13 y14 y15 y16, LeO (spec_SelfTimes.l1 k y0 y1 y2 y3 y4 y5 y6 y7 y8 y9 y10 y11 y12 y13 y14 y15 y16) (spec_SelfTimes.l1 (k + 1) y0 y1 y2 y3 y4 y5 y6 y7 y8 y9 y10 y11 y12 y13 y14 y15 y16)) ∧ (∀ y0 y1 y2 y3 y4 y5 y6 y7 y8 y9 y10 y11 y12 y13 y14 y15 y16 y17 y18 y19 y20 y21 y22 y23 y24 y25 y26, LeO (spec_SelfTimes.l2 k y0 y1 y2 y3 y4 y5 y6 y7 y8 y9 y10 y11 y12 y13 y14 y15 y16 y17 y18 y19 y20 y21 y22 y23 y24 y25 y26) (spec_SelfTimes.l2 (k + 1) y0 y1 y2 y3 y4 y5 y6 y7 y8 y9 y10 y11 y12 y13 y14 y15 y16 y17 y18 y19 y20 y21 y22 y23 y24 y25 y26)) ∧ (∀ y0 y1 y2 y3 y4 y5 y6 y7 y8 y9, LeO (spec_SelfTimes.l3 k y0 y1 y2 y3 y4 y5 y6 y7 y8 y9) (spec_SelfTimes.l3 (k + 1) y0 y1 y2 y3 y4 y5 y6 y7 y8 y9))
 | 0 => ⟨fun _ _ _ _ _ _ r h => by simp [spec_SelfTimes.l0] at h, fun _ _ _ _ _ _ _ _ _ _ _ _ _ _ _ _ _ r h => by simp [spec_SelfTimes.l1] at h, fun _ _ _ _ _ _ _ _ _ _ _ _ _ _ _ _ _ _ _ _ _ _ _ _ _ _ _ r h => by simp [spec_SelfTimes.l2] at h, fun _ _ _ _ _ _ _ _ _ _ r h => by simp [spec_SelfTimes.l3] at h⟩
 | k + 1 => by
  obtain ⟨ih0, ih1, ih2, ih3⟩ := spec_SelfTimes.mono_l k
  refine ⟨?_, ?_, ?_, ?_⟩
  ·intro y0 y1 y2 y3 y4 y5
   unfold spec_SelfTimes.l0
   repeat' first
   | (with_reducible exact ih0 _ _ _ _ _ _)
   | (with_reducible exact ih1 _ _ _ _ _ _ _ _ _ _ _ _ _ _ _ _ _)
   | (with_reducible exact ih2 _ _ _ _ _ _ _ _ _ _ _ _ _ _ _ _ _ _ _ _ _ _ _ _ _ _ _)
   | (with_reducible exact ih3 _ _ _ _ _ _ _ _ _ _)
   | (with_reducible exact LeO.refl _)
   | (with_reducible exact LeO.none _)
   | (with_reducible refine LeO.ite ?_ ?_)
   | (with_reducible refine LeO.bind ?_ (fun _ => ?_))
   | exact ih0 _ _ _ _ _ _
   | exact ih1 _ _ _ _ _ _ _ _ _ _ _ _ _ _ _ _ _
   | exact ih2 _ _ _ _ _ _ _ _ _ _ _ _ _ _ _ _ _ _ _ _ _ _ _ _ _ _ _
   | exact ih3 _ _ _ _ _ _ _ _ _ _
   | exact LeO.none _
   | refine LeO.ite ?_ ?_
   | refine LeO.bind ?_ (fun _ => ?_)
  ·intro y0 y1 y2 y3 y4 y5 y6 y7 y8 y9 y10 y11 y12 y13 y14 y15 y16
   unfold spec_SelfTimes.l1
   repeat' first
   | (with_reducible exact ih0 _ _ _ _ _ _)
   | (with_reducible exact ih1 _ _ _ _ _ _ _ _ _ _ _ _ _ _ _ _ _)
   | (with_reducible exact ih2 _ _ _ _ _ _ _ _ _ _ _ _ _ _ _ _ _ _ _ _ _ _ _ _ _ _ _)
   | (with_reducible exact ih3 _ _ _ _ _ _ _ _ _ _)
   | (with_reducible exact LeO.refl _)
   | (with_reducible exact LeO.none _)
   | (with_reducible refine LeO.ite ?_ ?_)
   | (with_reducible refine LeO.bind ?_ (fun _ => ?_))
   | exact ih0 _ _ _ _ _ _
   | exact ih1 _ _ _ _ _ _ _ _ _ _ _ _ _ _ _ _ _
   | exact ih2 _ _ _ _ _ _ _ _ _ _ _ _ _ _ _ _ _ _ _ _ _ _ _ _ _ _ _
   | exact ih3 _ _ _ _ _ _ _ _ _ _
   | exact LeO.none _
   | refine LeO.ite ?_ ?_
   | refine LeO.bind ?_ (fun _ => ?_)
  ·intro y0 y1 y2 y3 y4 y5 y6 y7 y8 y9 y10 y11 y12 y13 y14 y15 y16 y17 y18 y19 y20 y21 y22 y23 y24 y25 y26
   unfold spec_SelfTimes.l2
   repeat' first
   | (with_reducible exact ih0 _ _ _ _ _ _)
   | (with_reducible exact ih1 _ _ _ _ _ _ _ _ _ _ _ _ _ _ _ _ _)
   | (with_reducible exact ih2 _ _ _ _ _ _ _ _ _ _ _ _ _ _ _ _ _ _ _ _ _ _ _ _ _ _ _)
   | (with_reducible exact ih3 _ _ _ _ _ _ _ _ _ _)
   | (with_reducible exact LeO.refl _)
   | (with_reducible exact LeO.none _)
   | (with_reducible refine LeO.ite ?_ ?_)
   | (with_reducible refine LeO.bind ?_ (fun _ => ?_))
   | exact ih0 _ _ _ _ _ _
   | exact ih1 _ _ _ _ _ _ _ _ _ _ _ _ _ _ _ _ _
   | exact ih2 _ _ _ _ _ _ _ _ _ _ _ _ _ _ _ _ _ _ _ _ _ _ _ _ _ _ _
   | exact ih3 _ _ _ _ _ _ _ _ _ _
   | exact LeO.none _
   | refine LeO.ite ?_ ?_
   | refine LeO.bind ?_ (fun _ => ?_)
  ·intro y0 y1 y2 y3 y4 y5 y6 y7 y8 y9
   unfold spec_SelfTimes.l3
   repeat' first
   | (with_reducible exact ih0 _ _ _ _ _ _)
   | (with_reducible exact ih1 _ _ _ _ _ _ _ _ _ _ _ _ _ _ _ _ _)
   | (with_reducible exact ih2 _ _ _ _ _ _ _ _ _ _ _ _ _ _ _ _ _ _ _ _ _ _ _ _ _ _ _)
   | (with_reducible exact ih3 _ _ _ _ _ _ _ _ _ _)
   | (with_reducible exact LeO.refl _)
   | (with_reducible exact LeO.none _)
   | (with_reducible refine LeO.ite ?_ ?_)
   | (with_reducible refine LeO.bind ?_ (fun _ => ?_))
   | exact ih0 _ _ _ _ _ _
   | exact ih1 _ _ _ _ _ _ _ _ _ _ _ _ _ _ _ _ _
   | exact ih2 _ _ _ _ _ _ _ _ _ _ _ _ _ _ _ _ _ _ _ _ _ _ _ _ _ _ _
   | exact ih3 _ _ _ _ _ _ _ _ _ _
   | exact LeO.none _
   | refine LeO.ite ?_ ?_
   | refine LeO.bind ?_ (fun _ => ?_)
theorem spec_SelfTimes.mono : ∀ a0 a1 k, LeO (spec_SelfTimes.f k a0 a1) (spec_SelfTimes.f (k + 1) a0 a1) := by
 intro a0 a1 k
 obtain ⟨ih0, ih1, ih2, ih3⟩ := spec_SelfTimes.mono_l k
 unfold spec_SelfTimes.f
 repeat' first
   | (with_reducible exact ih0 _ _ _ _ _ _)
   | (with_reducible exact ih1 _ _ _ _ _ _ _ _ _ _ _ _ _ _ _ _ _)
   | (with_reducible exact ih2 _ _ _ _ _ _ _ _ _ _ _ _ _ _ _ _ _ _ _ _ _ _ _ _ _ _ _)
   | (with_reducible exact ih3 _ _ _ _ _ _ _ _ _ _)
   | (with_reducible exact LeO.refl _)
   | (with_reducible exact LeO.none _)
   | (with_reducible refine LeO.ite ?_ ?_)
   | (with_reducible refine LeO.bind ?_ (fun _ => ?_))
   | exact ih0 _ _ _ _ _ _
   | exact ih1 _ _ _ _ _ _ _ _ _ _ _ _ _ _ _ _ _
   | exact ih2 _ _ _ _ _ _ _ _ _ _ _ _ _ _ _ _ _ _ _ _ _ _ _ _ _ _ _
   | exact ih3 _ _ _ _ _ _ _ _ _ _
   | exact LeO.none _
   | refine LeO.ite ?_ ?_
   | refine LeO.bind ?_ (fun _ => ?_)
def spec_SelfTimes.T17 : Bool × List (List Nat × List Nat) := (true, [([], []), ([], []), ([1], [1]), ([], []), ([3], [3]), ([], []), ([5], [5]), ([4, 6], [4, 6]), ([2, 7], [2, 7]), ([8], [8]), ([0, 9, 7], [0, 9]), ([10, 10, 0, 1, 2, 3, 4, 5, 6, 7, 8, 9, 10], [0, 10])])
def spec_SelfTimes.B17 : List Nat := [0, 0, 2, 0, 8, 0, 32, 120, 254, 510, 1023, 2047]
theorem spec_SelfTimes.tab17 : rtab .any (opsOf Try.f9 17) = spec_SelfTimes.T17 := by kernel_rfl
theorem spec_SelfTimes.bits17 : waitsOk spec_SelfTimes.T17.2 spec_SelfTimes.B17 = true := by kernel_rfl
def spec_SelfTimes.T19 : Bool × List (List Nat × List Nat) := (true, [([], []), ([], []), ([1], [1]), ([], []), ([3], [3]), ([2, 4], [2, 4]), ([], []), ([6], [6]), ([5, 7], [5, 7]), ([8], [8]), ([0, 9, 5], [0, 9]), ([10, 10, 0, 1, 2, 3, 4, 5, 6, 7, 8, 9, 10], [0, 10])])
def spec_SelfTimes.B19 : List Nat := [0, 0, 2, 0, 8, 30, 0, 64, 254, 510, 1023, 2047]
theorem spec_SelfTimes.tab19 : rtab .any (opsOf Try.f9 19) = spec_SelfTimes.T19 := by kernel_rfl
theorem spec_SelfTimes.bits19 : waitsOk spec_SelfTimes.T19.2 spec_SelfTimes.B19 = true := by kernel_rfl
set_option maxHeartbeats 8000000 in
set_option maxRecDepth 100000 in
theorem spec_SelfTimes.calls (k : Nat) (a0_0 : Int) (A0_1 : Option Addr) (c0_1 : Nat) (l0_1 : List (S34)) (r : List Int) (w : World) (hr0_1 : Kd.C k34 w A0_1 l0_1.length l0_1) (hc0_1 : l0_1.length ≤ c0_1) (h : spec_SelfTimes.f k a0_0 l0_1 = some r) :
  Calls Try.prog 9 #[.agg #[.int .i64 a0_0, .slice A0_1 l0_1.length c0_1]] w fun e w' => ∃ v0_ : Value, e = .returned (v0_) ∧ Kd.R (Kd.int .i64) 3 w' w.heap.size (fun _ => True) v0_ r ∧ Below w.heap.size w w' := by
 have hu25 := Try.underlying25
 have hu34 := Try.underlying34
 have hu55 := Try.underlying55
 have HR0_1 := Aside0.mk hr0_1
 have HC0_1 := Aside0.mk hc0_1
 clear hr0_1 hc0_1
 have HB := Aside0.mk (Below.refl w.heap.size w)
 have H : ((spec_GoodTrace.f a0_0 l0_1).bind fun t197 => (if t197 = true then (spec_SelfTimes.l0 k ([] : List Int) l0_1 (l0_1.length : Int) 0 a0_0 l0_1) else (some ([] : List Int)))) = some r := h
 clear h
 replace H := Option.bind_eq_some_iff.mp H
 obtain ⟨t197, A20, H⟩ := H
 replace H : (if t197 = true then (spec_SelfTimes.l0 k ([] : List Int) l0_1 (l0_1.length : Int) 0 a0_0 l0_1) else (some ([] : List Int))) = some r := H
 have A2 := Aside0.mk A20
 clear A20
 by_cases c3 : t197 = true
 ·subst c3
  have H1 : (spec_SelfTimes.l0 k ([] : List Int) l0_1 (l0_1.length : Int) 0 a0_0 l0_1) = some r := by rw [if_pos rfl] at H; exact H
  clear H
  have H := H1
  clear H1
  have H' := Aside0.mk H
  clear H
  go_enter Try.func9, Try.ntmps9
  go_wp2_with (first | ((with_reducible refine gate_dst (N := 1) rfl ?_); refine box_event ?hg (N := 1) ?hd (cs := #[.int .i64 a0_0, .slice A0_1 l0_1.length c0_1]) (t := 25) ?hr ?_; (case hd => rfl); (case hg => rfl); (case hr => first | (go_simp; done) | (go_simp; rfl)); intro gb196 hg w4 hbox hb; have n0_ := Aside0.mk (below_step (by with_reducible repeat (first | exact HB.out | apply below_alloc | apply pw_below_drewN | apply below_drew1)) hb); have n1_ := Aside0.mk (hbox); have n2_ := Aside0.mk ((by rw [hg]; exact (below_size (by with_reducible repeat (first | exact HB.out | apply below_alloc | apply pw_below_drewN | apply below_drew1))) : w.heap.size ≤ gb196)); have n3_ := n2_; clear HB; have HB := n0_; have BK196 := n1_; have GW196 := n2_; have GE196 := n3_; clear n0_ n1_ n2_ n3_; clear hb hbox hg; have hcz5_0 : w4.cell? ⟨gb196, 0, none⟩ = some (.int .i64 a0_0) := (blk_cell BK196.out 0).trans rfl; have hcz5_1 : w4.cell? ⟨gb196, 1, none⟩ = some (.slice A0_1 l0_1.length c0_1) := (blk_cell BK196.out 1).trans rfl; have hfz5_0 := blk_frozen BK196.out 0; have hfz5_1 := blk_frozen BK196.out 1) | ((with_reducible refine gate_callee (f := 7) rfl ?_); refine goesL_ (some 16) rfl rfl Try.func7 (by kernel_rfl) rfl #[.agg #[.int .i64 a0_0, .slice A0_1 l0_1.length c0_1]] rfl (by (try simp only [List.map_toArray, List.map_cons, List.map_nil]); first | done | rfl) ?_; (with_reducible refine (spec_GoodTrace.calls a0_0 _ _ l0_1 true _ ?side1 ?side2 A2.out).mono ?_); (case side1 => repeat (first | exact (Kd.C_below HR0_1.out HB.out) | (with_reducible refine Kd.C_alloc ?_ _) | (with_reducible refine Kd.C_drewN ?_ _) | (with_reducible refine Kd.C_drew ?_))); (case side2 => exact HC0_1.out); rintro e w6 ⟨rfl, hb⟩; refine ⟨_, rfl, ?_⟩; have n0_ := Aside0.mk (blk_below (g := gb196) (by (with_reducible repeat (first | apply blk_drewN | apply blk_drew | apply blk_alloc)); exact BK196.out) hb); have n1_ := Aside0.mk (below_step (by with_reducible repeat (first | exact HB.out | apply below_alloc | apply pw_below_drewN | apply below_drew1 | refine below_set ?_ GE196.out)) hb); clear BK196; clear HB; have BK196 := n0_; have HB := n1_; clear n0_ n1_; (try clear hb); (try clear hb2); (try clear hk); (try clear hi); have hcz7_0 : w6.cell? ⟨gb196, 0, none⟩ = some (.int .i64 a0_0) := (blk_cell BK196.out 0).trans rfl; have hcz7_1 : w6.cell? ⟨gb196, 1, none⟩ = some (.slice A0_1 l0_1.length c0_1) := (blk_cell BK196.out 1).trans rfl; have hfz7_0 := blk_frozen BK196.out 0; have hfz7_1 := blk_frozen BK196.out 1))
  go_loopg [3, 21] k (fun kq v3 v21 w' => ∃ (x3_1 : List Int) (x21_1 : Int), v21 = .int .i64 x21_1 ∧ Aside0 (spec_SelfTimes.l0 kq x3_1 l0_1 (l0_1.length : Int) x21_1 a0_0 l0_1 = some r) ∧ Aside0 (kq ≤ k) ∧ Aside0 (Kd.R (Kd.int .i64) 3 w' w.heap.size (fun _ => True) v3 x3_1) ∧ Aside0 (w'.heap[gb196]? = some (.cells #[.int .i64 a0_0, (.slice A0_1 l0_1.length c0_1)] 25 (0, 0))) ∧ Aside0 (Below w.heap.size w w'))
  case atStart => exact ⟨(([] : List Int)), (0), (by first | rfl | (simp; done) | (simp [*]; done)), H', ⟨Nat.le_refl _⟩, ⟨by first | exact Kd.R_nil _ _ _ _ _ | exact Kd.N_nil _ _ _ _ _ | exact Kd.V_nil _ _ _ _ _ | exact Kd.Q_nil _ _ _ _ _ | exact Kd.S_nil _ _ _ _ _⟩, ⟨by (with_reducible repeat (first | apply blk_drewN | apply blk_drew | apply blk_alloc)); exact BK196.out⟩, ⟨by with_reducible repeat (first | exact HB.out | apply below_alloc | apply pw_below_drewN | apply below_drew1 | refine below_set ?_ GE196.out)⟩⟩
  case round =>
   clear H'
   obtain ⟨x3_1, x21_1, rfl, HA, HK1, HO_3, BK196, HB⟩ := hrel
   cases gk with
   | zero => exact absurd HA.out (by simp [spec_SelfTimes.l0])
   | succ k1 =>
    have H := HA.out
    clear HA
    simp only [spec_SelfTimes.l0] at H
    by_cases c8 : x21_1 < (l0_1.length : Int)
    ·rw [if_pos c8] at H
     have c8b0 : decide (x21_1 < (l0_1.length : Int)) = true := decide_eq_true c8
     clear c8
     by_cases c9 : 0 ≤ x21_1
     ·rw [if_pos c9] at H
      have c9b0 : decide (0 ≤ x21_1) = true := decide_eq_true c9
      clear c9
      by_cases c10 : x21_1 < (l0_1.length : Int)
      ·rw [if_pos c10] at H
       have c10b0 : decide (x21_1 < (l0_1.length : Int)) = true := decide_eq_true c10
       clear c10
       obtain ⟨y200, hy200⟩ : ∃ y_ : List (S55), y_ = (([(⟨(rd_T34 l0_1 x21_1).f4, (rd_T34 l0_1 x21_1).f5⟩ : S55)] : List (S55))) := ⟨_, rfl⟩
       replace H : (spec_SelfTimes.l1 k1 x3_1 y200 l0_1 (l0_1.length : Int) x21_1 l0_1 (l0_1.length : Int) 0 a0_0 l0_1 ((rd_T34 l0_1 x21_1).f0) ((rd_T34 l0_1 x21_1).f1) ((rd_T34 l0_1 x21_1).f2) ((rd_T34 l0_1 x21_1).f3) ((rd_T34 l0_1 x21_1).f4) ((rd_T34 l0_1 x21_1).f5) ((rd_T34 l0_1 x21_1).f6)) = some r := by first | (rw [hy200]; with_reducible exact H) | (have H2_ := (Option.bind_some _ _).symm.trans H; rw [hy200]; with_reducible exact H2_) | (have H2_ := (Option.bind_some _ _).symm.trans H; with_reducible exact H2_) | with_reducible exact H | (rw [hy200]; exact H) | exact H
       have Ny200 := Aside0.mk hy200
       clear hy200
       have H' := Aside0.mk H
       clear H
       have p198 : 0 ≤ (x21_1 : Int) := of_decide_eq_true (by assumption)
       have q198 : x21_1 < (l0_1.length : Int) := of_decide_eq_true (by assumption)
       obtain ⟨ad198, e198, hx198_0, hx198_1, hx198_2, hx198_3, hx198_4, hx198_5, hx198_6⟩ := at_T34 HR0_1.out x21_1 p198 q198
       cases e198
       replace hx198_0 := (HB.out.cell (World.block_lt_of_cell? w _ hx198_0)).trans hx198_0
       replace hx198_1 := (HB.out.cell (World.block_lt_of_cell? w _ hx198_1)).trans hx198_1
       replace hx198_2 := (HB.out.cell (World.block_lt_of_cell? w _ hx198_2)).trans hx198_2
       replace hx198_3 := (HB.out.cell (World.block_lt_of_cell? w _ hx198_3)).trans hx198_3
       replace hx198_4 := (HB.out.cell (World.block_lt_of_cell? w _ hx198_4)).trans hx198_4
       replace hx198_5 := (HB.out.cell (World.block_lt_of_cell? w _ hx198_5)).trans hx198_5
       replace hx198_6 := (HB.out.cell (World.block_lt_of_cell? w _ hx198_6)).trans hx198_6
       replace p198 := eq_true p198
       replace q198 := eq_true q198
       go_wp2_with (first | ((with_reducible refine gate_dst (N := 5) rfl ?_); refine box_event ?hg (N := 5) ?hd (cs := #[.int .i64 0, .int .i64 0, .string ⟨#[]⟩, .string ⟨#[]⟩, .int .i64 0, .int .i64 0, .bool false]) (t := 34) ?hr ?_; (case hd => rfl); (case hg => rfl); (case hr => first | (go_simp; done) | (go_simp; rfl)); intro gb199 hg w11 hbox hb; have n0_ := Aside0.mk (Kd.R_below (by (with_reducible repeat (first | apply Kd.R_alloc | apply Kd.R_drewN | apply Kd.R_drew)); exact HO_3.out) hb); have n1_ := Aside0.mk (blk_below (g := gb196) (by (with_reducible repeat (first | apply blk_drewN | apply blk_drew | apply blk_alloc)); exact BK196.out) hb); have n2_ := Aside0.mk (below_step (by with_reducible repeat (first | exact HB.out | apply below_alloc | apply pw_below_drewN | apply below_drew1 | refine below_set ?_ GE196.out)) hb); have n3_ := Aside0.mk (hbox); have n4_ := Aside0.mk ((by rw [hg]; exact (below_size (by with_reducible repeat (first | exact HB.out | apply below_alloc | apply pw_below_drewN | apply below_drew1 | refine below_set ?_ GE196.out))) : w.heap.size ≤ gb199)); have n5_ := n4_; have n6_ := Aside0.mk ((by rw [hg]; exact Nat.ne_of_lt (blk_lt (g := gb196) (by (with_reducible repeat (first | apply blk_drewN | apply blk_drew | apply blk_alloc)); exact BK196.out)) : gb196 ≠ gb199)); have n7_ := Aside0.mk ((by rw [hg]; exact Nat.ne_of_gt (blk_lt (g := gb196) (by (with_reducible repeat (first | apply blk_drewN | apply blk_drew | apply blk_alloc)); exact BK196.out)) : gb199 ≠ gb196)); clear HO_3; clear BK196; clear HB; have HO_3 := n0_; have BK196 := n1_; have HB := n2_; have BK199 := n3_; have GW199 := n4_; have GE199 := n5_; have NB196_199 := n6_; have NB199_196 := n7_; clear n0_ n1_ n2_ n3_ n4_ n5_ n6_ n7_; clear hb hbox hg; have hnb12 := NB199_196.out; have hnc12 := NB196_199.out; have hcz13_0 : w11.cell? ⟨gb199, 0, none⟩ = some (.int .i64 0) := (blk_cell BK199.out 0).trans rfl; have hcz13_1 : w11.cell? ⟨gb199, 1, none⟩ = some (.int .i64 0) := (blk_cell BK199.out 1).trans rfl; have hcz13_2 : w11.cell? ⟨gb199, 2, none⟩ = some (.string ⟨#[]⟩) := (blk_cell BK199.out 2).trans rfl; have hcz13_3 : w11.cell? ⟨gb199, 3, none⟩ = some (.string ⟨#[]⟩) := (blk_cell BK199.out 3).trans rfl; have hcz13_4 : w11.cell? ⟨gb199, 4, none⟩ = some (.int .i64 0) := (blk_cell BK199.out 4).trans rfl; have hcz13_5 : w11.cell? ⟨gb199, 5, none⟩ = some (.int .i64 0) := (blk_cell BK199.out 5).trans rfl; have hcz13_6 : w11.cell? ⟨gb199, 6, none⟩ = some (.bool false) := (blk_cell BK199.out 6).trans rfl; have hfz13_0 := blk_frozen BK199.out 0; have hfz13_1 := blk_frozen BK199.out 1; have hfz13_2 := blk_frozen BK199.out 2; have hfz13_3 := blk_frozen BK199.out 3; have hfz13_4 := blk_frozen BK199.out 4; have hfz13_5 := blk_frozen BK199.out 5; have hfz13_6 := blk_frozen BK199.out 6) | ((with_reducible refine gate_dst (N := 30) rfl ?_); refine Kd.R_lit k55 _ 55 ?hg (N := 30) ?hd (xs := ([(⟨(rd_T34 l0_1 x21_1).f4, (rd_T34 l0_1 x21_1).f5⟩ : S55)] : List (S55))) (inner := [.int .i64 ((rd_T34 l0_1 x21_1).f4), .int .i64 ((rd_T34 l0_1 x21_1).f5)]) (ok := fun _ => True) (okp := fun _ => True) ?hr ?hp (fun _ hk => hk) trivial (Below.refl _ _) (Nat.le_refl _) (by simp) ?_; (case hd => rfl); (case hg => rfl); (case hr => first | (go_simp; done) | (go_simp; rfl)); (case hp => exact (Reps.c2 (show Kd.M k55 _ _ _ (⟨(rd_T34 l0_1 x21_1).f4, (rd_T34 l0_1 x21_1).f5⟩ : S55) [.int .i64 ((rd_T34 l0_1 x21_1).f4), .int .i64 ((rd_T34 l0_1 x21_1).f5)] from (k55_mkM _ _ _ (⟨(rd_T34 l0_1 x21_1).f4, (rd_T34 l0_1 x21_1).f5⟩ : S55) )) (Reps.none _ _))); intro v201 w14 ho15 hb hg_ hnew_; clear hg_ hnew_; (first | rw [← Ny200.out] at ho15 | (simp only [Int.reduceToNat] at ho15; rw [← Ny200.out] at ho15)); have n0_ := Aside0.mk (Kd.R_below (by (with_reducible repeat (first | apply Kd.R_alloc | apply Kd.R_drewN | apply Kd.R_drew)); exact (Kd.R_mono (Kd.R_far (p := ⟨gb199, 6, none⟩) (Kd.R_far (p := ⟨gb199, 5, none⟩) (Kd.R_far (p := ⟨gb199, 4, none⟩) (Kd.R_far (p := ⟨gb199, 3, none⟩) (Kd.R_far (p := ⟨gb199, 2, none⟩) (Kd.R_far (p := ⟨gb199, 1, none⟩) (Kd.R_far (p := ⟨gb199, 0, none⟩) (Kd.R_types HO_3.out BK199.out (by decide)) (fun _ hk => hk.2) (.int .i64 ((rd_T34 l0_1 x21_1).f0))) (fun _ hk => hk.2) (.int .i64 ((rd_T34 l0_1 x21_1).f1))) (fun _ hk => hk.2) (.string ((rd_T34 l0_1 x21_1).f2))) (fun _ hk => hk.2) (.string ((rd_T34 l0_1 x21_1).f3))) (fun _ hk => hk.2) (.int .i64 ((rd_T34 l0_1 x21_1).f4))) (fun _ hk => hk.2) (.int .i64 ((rd_T34 l0_1 x21_1).f5))) (fun _ hk => hk.2) (.bool ((rd_T34 l0_1 x21_1).f6))) (fun _ h_ => h_.1))) hb); have n1_ := Aside0.mk (Kd.R_lower ho15 (below_size (by with_reducible repeat (first | exact HB.out | apply below_alloc | apply pw_below_drewN | apply below_drew1 | refine below_set ?_ GE196.out | refine below_set ?_ GE199.out)))); have n2_ := Aside0.mk (blk_below (g := gb196) (o := .cells #[.int .i64 a0_0, .slice (some ad198) l0_1.length c0_1] 25 (0, 0)) (by (with_reducible repeat (first | apply blk_drewN | apply blk_drew | apply blk_alloc)); refine blk_far ?_ NB196_199.out _; (with_reducible repeat (first | apply blk_drewN | apply blk_drew | apply blk_alloc)); refine blk_far ?_ NB196_199.out _; (with_reducible repeat (first | apply blk_drewN | apply blk_drew | apply blk_alloc)); refine blk_far ?_ NB196_199.out _; (with_reducible repeat (first | apply blk_drewN | apply blk_drew | apply blk_alloc)); refine blk_far ?_ NB196_199.out _; (with_reducible repeat (first | apply blk_drewN | apply blk_drew | apply blk_alloc)); refine blk_far ?_ NB196_199.out _; (with_reducible repeat (first | apply blk_drewN | apply blk_drew | apply blk_alloc)); refine blk_far ?_ NB196_199.out _; (with_reducible repeat (first | apply blk_drewN | apply blk_drew | apply blk_alloc)); refine blk_far ?_ NB196_199.out _; (with_reducible repeat (first | apply blk_drewN | apply blk_drew | apply blk_alloc)); exact BK196.out) hb); have n3_ := Aside0.mk (blk_below (g := gb199) (o := .cells #[.int .i64 ((rd_T34 l0_1 x21_1).f0), .int .i64 ((rd_T34 l0_1 x21_1).f1), .string ((rd_T34 l0_1 x21_1).f2), .string ((rd_T34 l0_1 x21_1).f3), .int .i64 ((rd_T34 l0_1 x21_1).f4), .int .i64 ((rd_T34 l0_1 x21_1).f5), .bool ((rd_T34 l0_1 x21_1).f6)] 34 (0, 0)) (by (with_reducible repeat (first | apply blk_drewN | apply blk_drew | apply blk_alloc)); refine blk_put (cs := #[.int .i64 ((rd_T34 l0_1 x21_1).f0), .int .i64 ((rd_T34 l0_1 x21_1).f1), .string ((rd_T34 l0_1 x21_1).f2), .string ((rd_T34 l0_1 x21_1).f3), .int .i64 ((rd_T34 l0_1 x21_1).f4), .int .i64 ((rd_T34 l0_1 x21_1).f5), .bool false]) ?_ 6 _ rfl; (with_reducible repeat (first | apply blk_drewN | apply blk_drew | apply blk_alloc)); refine blk_put (cs := #[.int .i64 ((rd_T34 l0_1 x21_1).f0), .int .i64 ((rd_T34 l0_1 x21_1).f1), .string ((rd_T34 l0_1 x21_1).f2), .string ((rd_T34 l0_1 x21_1).f3), .int .i64 ((rd_T34 l0_1 x21_1).f4), .int .i64 0, .bool false]) ?_ 5 _ rfl; (with_reducible repeat (first | apply blk_drewN | apply blk_drew | apply blk_alloc)); refine blk_put (cs := #[.int .i64 ((rd_T34 l0_1 x21_1).f0), .int .i64 ((rd_T34 l0_1 x21_1).f1), .string ((rd_T34 l0_1 x21_1).f2), .string ((rd_T34 l0_1 x21_1).f3), .int .i64 0, .int .i64 0, .bool false]) ?_ 4 _ rfl; (with_reducible repeat (first | apply blk_drewN | apply blk_drew | apply blk_alloc)); refine blk_put (cs := #[.int .i64 ((rd_T34 l0_1 x21_1).f0), .int .i64 ((rd_T34 l0_1 x21_1).f1), .string ((rd_T34 l0_1 x21_1).f2), .string ⟨#[]⟩, .int .i64 0, .int .i64 0, .bool false]) ?_ 3 _ rfl; (with_reducible repeat (first | apply blk_drewN | apply blk_drew | apply blk_alloc)); refine blk_put (cs := #[.int .i64 ((rd_T34 l0_1 x21_1).f0), .int .i64 ((rd_T34 l0_1 x21_1).f1), .string ⟨#[]⟩, .string ⟨#[]⟩, .int .i64 0, .int .i64 0, .bool false]) ?_ 2 _ rfl; (with_reducible repeat (first | apply blk_drewN | apply blk_drew | apply blk_alloc)); refine blk_put (cs := #[.int .i64 ((rd_T34 l0_1 x21_1).f0), .int .i64 0, .string ⟨#[]⟩, .string ⟨#[]⟩, .int .i64 0, .int .i64 0, .bool false]) ?_ 1 _ rfl; (with_reducible repeat (first | apply blk_drewN | apply blk_drew | apply blk_alloc)); refine blk_put (cs := #[.int .i64 0, .int .i64 0, .string ⟨#[]⟩, .string ⟨#[]⟩, .int .i64 0, .int .i64 0, .bool false]) ?_ 0 _ rfl; (with_reducible repeat (first | apply blk_drewN | apply blk_drew | apply blk_alloc)); exact BK199.out) hb); have n4_ := Aside0.mk (below_step (by with_reducible repeat (first | exact HB.out | apply below_alloc | apply pw_below_drewN | apply below_drew1 | refine below_set ?_ GE196.out | refine below_set ?_ GE199.out)) hb); clear HO_3; clear BK196; clear BK199; clear HB; have HO_3 := n0_; have HO202 := n1_; have BK196 := n2_; have BK199 := n3_; have HB := n4_; clear n0_ n1_ n2_ n3_ n4_; clear hb ho15; have hcz16_0 : w14.cell? ⟨gb196, 0, none⟩ = some (.int .i64 a0_0) := (blk_cell BK196.out 0).trans rfl; have hcz16_1 : w14.cell? ⟨gb196, 1, none⟩ = some (.slice (some ad198) l0_1.length c0_1) := (blk_cell BK196.out 1).trans rfl; have hfz16_0 := blk_frozen BK196.out 0; have hfz16_1 := blk_frozen BK196.out 1))
       go_loopg [6, 34] k1 (fun kq v6 v34 w' => ∃ (x6_2 : List (S55)) (x34_2 : Int), v34 = .int .i64 x34_2 ∧ Aside0 (spec_SelfTimes.l1 kq x3_1 x6_2 l0_1 (l0_1.length : Int) x21_1 l0_1 (l0_1.length : Int) x34_2 a0_0 l0_1 ((rd_T34 l0_1 x21_1).f0) ((rd_T34 l0_1 x21_1).f1) ((rd_T34 l0_1 x21_1).f2) ((rd_T34 l0_1 x21_1).f3) ((rd_T34 l0_1 x21_1).f4) ((rd_T34 l0_1 x21_1).f5) ((rd_T34 l0_1 x21_1).f6) = some r) ∧ Aside0 (kq ≤ k1) ∧ Aside0 (Kd.R (Kd.int .i64) 3 w' w.heap.size (fun _ => True) u3 x3_1) ∧ Aside0 (Kd.R k55 55 w' w.heap.size (fun _ => True) v6 x6_2) ∧ Aside0 (w'.heap[gb196]? = some (.cells #[.int .i64 a0_0, (.slice (some ad198) l0_1.length c0_1)] 25 (0, 0))) ∧ Aside0 (w'.heap[gb199]? = some (.cells #[.int .i64 ((rd_T34 l0_1 x21_1).f0), .int .i64 ((rd_T34 l0_1 x21_1).f1), .string ((rd_T34 l0_1 x21_1).f2), .string ((rd_T34 l0_1 x21_1).f3), .int .i64 ((rd_T34 l0_1 x21_1).f4), .int .i64 ((rd_T34 l0_1 x21_1).f5), .bool ((rd_T34 l0_1 x21_1).f6)] 34 (0, 0))) ∧ Aside0 (Below w.heap.size w w'))
       case atStart => exact ⟨(y200), (0), (by first | rfl | (simp; done) | (simp [*]; done)), H', ⟨Nat.le_refl _⟩, ⟨by (with_reducible repeat (first | apply Kd.R_alloc | apply Kd.R_drewN | apply Kd.R_drew)); exact HO_3.out⟩, ⟨by (with_reducible repeat (first | apply Kd.R_alloc | apply Kd.R_drewN | apply Kd.R_drew)); exact HO202.out⟩, ⟨by (with_reducible repeat (first | apply blk_drewN | apply blk_drew | apply blk_alloc)); exact BK196.out⟩, ⟨by (with_reducible repeat (first | apply blk_drewN | apply blk_drew | apply blk_alloc)); exact BK199.out⟩, ⟨by with_reducible repeat (first | exact HB.out | apply below_alloc | apply pw_below_drewN | apply below_drew1 | refine below_set ?_ GE196.out | refine below_set ?_ GE199.out)⟩⟩
       case round =>
        clear H'
        obtain ⟨x6_2, x34_2, rfl, HA, HK2, HO_3, HO_6, BK196, BK199, HB⟩ := hrel
        cases gk with
        | zero => exact absurd HA.out (by simp [spec_SelfTimes.l1])
        | succ k2 =>
         have H := HA.out
         clear HA
         simp only [spec_SelfTimes.l1] at H
         by_cases c17 : x34_2 < (l0_1.length : Int)
         ·rw [if_pos c17] at H
          have c17b0 : decide (x34_2 < (l0_1.length : Int)) = true := decide_eq_true c17
          clear c17
          by_cases c18 : 0 ≤ x34_2
          ·rw [if_pos c18] at H
           have c18b0 : decide (0 ≤ x34_2) = true := decide_eq_true c18
           clear c18
           by_cases c19 : x34_2 < (l0_1.length : Int)
           ·rw [if_pos c19] at H
            have c19b0 : decide (x34_2 < (l0_1.length : Int)) = true := decide_eq_true c19
            clear c19
            by_cases c20 : ((rd_T34 l0_1 x34_2).f1) = ((rd_T34 l0_1 x21_1).f0)
            ·rw [if_pos c20] at H
             have c20b0 : (((rd_T34 l0_1 x34_2).f1) == ((rd_T34 l0_1 x21_1).f0)) = true := beq_iff_eq.mpr c20
             have c20b1 : (((rd_T34 l0_1 x34_2).f1) != ((rd_T34 l0_1 x21_1).f0)) = false := bne_eq_false_iff_eq.mpr c20
             clear c20
             have H' := Aside0.mk H
             clear H
             have p203 : 0 ≤ (x34_2 : Int) := of_decide_eq_true (by assumption)
             have q203 : x34_2 < (l0_1.length : Int) := of_decide_eq_true (by assumption)
             obtain ⟨ad203, e203, hx203_0, hx203_1, hx203_2, hx203_3, hx203_4, hx203_5, hx203_6⟩ := at_T34 HR0_1.out x34_2 p203 q203
             obtain rfl : ad198 = ad203 := (by injection e203)
             replace hx203_0 := (HB.out.cell (World.block_lt_of_cell? w _ hx203_0)).trans hx203_0
             replace hx203_1 := (HB.out.cell (World.block_lt_of_cell? w _ hx203_1)).trans hx203_1
             replace hx203_2 := (HB.out.cell (World.block_lt_of_cell? w _ hx203_2)).trans hx203_2
             replace hx203_3 := (HB.out.cell (World.block_lt_of_cell? w _ hx203_3)).trans hx203_3
             replace hx203_4 := (HB.out.cell (World.block_lt_of_cell? w _ hx203_4)).trans hx203_4
             replace hx203_5 := (HB.out.cell (World.block_lt_of_cell? w _ hx203_5)).trans hx203_5
             replace hx203_6 := (HB.out.cell (World.block_lt_of_cell? w _ hx203_6)).trans hx203_6
             replace p203 := eq_true p203
             replace q203 := eq_true q203
             go_wp2_with (first | ((with_reducible refine gate_dst (N := 8) rfl ?_); refine box_event ?hg (N := 8) ?hd (cs := #[.int .i64 0, .int .i64 0, .string ⟨#[]⟩, .string ⟨#[]⟩, .int .i64 0, .int .i64 0, .bool false]) (t := 34) ?hr ?_; (case hd => rfl); (case hg => rfl); (case hr => first | (go_simp; done) | (go_simp; rfl)); intro gb204 hg w21 hbox hb; have n0_ := Aside0.mk (Kd.R_below (by (with_reducible repeat (first | apply Kd.R_alloc | apply Kd.R_drewN | apply Kd.R_drew)); exact HO_3.out) hb); have n1_ := Aside0.mk (Kd.R_below (by (with_reducible repeat (first | apply Kd.R_alloc | apply Kd.R_drewN | apply Kd.R_drew)); exact HO_6.out) hb); have n2_ := Aside0.mk (blk_below (g := gb196) (by (with_reducible repeat (first | apply blk_drewN | apply blk_drew | apply blk_alloc)); exact BK196.out) hb); have n3_ := Aside0.mk (blk_below (g := gb199) (by (with_reducible repeat (first | apply blk_drewN | apply blk_drew | apply blk_alloc)); exact BK199.out) hb); have n4_ := Aside0.mk (below_step (by with_reducible repeat (first | exact HB.out | apply below_alloc | apply pw_below_drewN | apply below_drew1 | refine below_set ?_ GE196.out | refine below_set ?_ GE199.out)) hb); have n5_ := Aside0.mk (hbox); have n6_ := Aside0.mk ((by rw [hg]; exact (below_size (by with_reducible repeat (first | exact HB.out | apply below_alloc | apply pw_below_drewN | apply below_drew1 | refine below_set ?_ GE196.out | refine below_set ?_ GE199.out))) : w.heap.size ≤ gb204)); have n7_ := n6_; have n8_ := Aside0.mk ((by rw [hg]; exact Nat.ne_of_lt (blk_lt (g := gb196) (by (with_reducible repeat (first | apply blk_drewN | apply blk_drew | apply blk_alloc)); exact BK196.out)) : gb196 ≠ gb204)); have n9_ := Aside0.mk ((by rw [hg]; exact Nat.ne_of_gt (blk_lt (g := gb196) (by (with_reducible repeat (first | apply blk_drewN | apply blk_drew | apply blk_alloc)); exact BK196.out)) : gb204 ≠ gb196)); have n10_ := Aside0.mk ((by rw [hg]; exact Nat.ne_of_lt (blk_lt (g := gb199) (by (with_reducible repeat (first | apply blk_drewN | apply blk_drew | apply blk_alloc)); exact BK199.out)) : gb199 ≠ gb204)); have n11_ := Aside0.mk ((by rw [hg]; exact Nat.ne_of_gt (blk_lt (g := gb199) (by (with_reducible repeat (first | apply blk_drewN | apply blk_drew | apply blk_alloc)); exact BK199.out)) : gb204 ≠ gb199)); clear HO_3; clear HO_6; clear BK196; clear BK199; clear HB; have HO_3 := n0_; have HO_6 := n1_; have BK196 := n2_; have BK199 := n3_; have HB := n4_; have BK204 := n5_; have GW204 := n6_; have GE204 := n7_; have NB196_204 := n8_; have NB204_196 := n9_; have NB199_204 := n10_; have NB204_199 := n11_; clear n0_ n1_ n2_ n3_ n4_ n5_ n6_ n7_ n8_ n9_ n10_ n11_; clear hb hbox hg; have hnb22 := NB204_196.out; have hnc22 := NB196_204.out; have hnb23 := NB204_199.out; have hnc23 := NB199_204.out; have hcz24_0 : w21.cell? ⟨gb204, 0, none⟩ = some (.int .i64 0) := (blk_cell BK204.out 0).trans rfl; have hcz24_1 : w21.cell? ⟨gb204, 1, none⟩ = some (.int .i64 0) := (blk_cell BK204.out 1).trans rfl; have hcz24_2 : w21.cell? ⟨gb204, 2, none⟩ = some (.string ⟨#[]⟩) := (blk_cell BK204.out 2).trans rfl; have hcz24_3 : w21.cell? ⟨gb204, 3, none⟩ = some (.string ⟨#[]⟩) := (blk_cell BK204.out 3).trans rfl; have hcz24_4 : w21.cell? ⟨gb204, 4, none⟩ = some (.int .i64 0) := (blk_cell BK204.out 4).trans rfl; have hcz24_5 : w21.cell? ⟨gb204, 5, none⟩ = some (.int .i64 0) := (blk_cell BK204.out 5).trans rfl; have hcz24_6 : w21.cell? ⟨gb204, 6, none⟩ = some (.bool false) := (blk_cell BK204.out 6).trans rfl; have hfz24_0 := blk_frozen BK204.out 0; have hfz24_1 := blk_frozen BK204.out 1; have hfz24_2 := blk_frozen BK204.out 2; have hfz24_3 := blk_frozen BK204.out 3; have hfz24_4 := blk_frozen BK204.out 4; have hfz24_5 := blk_frozen BK204.out 5; have hfz24_6 := blk_frozen BK204.out 6; have hnb25 := NB199_196.out; have hnc25 := NB196_199.out; have hcz26_0 : w21.cell? ⟨gb199, 0, none⟩ = some (.int .i64 ((rd_T34 l0_1 x21_1).f0)) := (blk_cell BK199.out 0).trans rfl; have hcz26_1 : w21.cell? ⟨gb199, 1, none⟩ = some (.int .i64 ((rd_T34 l0_1 x21_1).f1)) := (blk_cell BK199.out 1).trans rfl; have hcz26_2 : w21.cell? ⟨gb199, 2, none⟩ = some (.string ((rd_T34 l0_1 x21_1).f2)) := (blk_cell BK199.out 2).trans rfl; have hcz26_3 : w21.cell? ⟨gb199, 3, none⟩ = some (.string ((rd_T34 l0_1 x21_1).f3)) := (blk_cell BK199.out 3).trans rfl; have hcz26_4 : w21.cell? ⟨gb199, 4, none⟩ = some (.int .i64 ((rd_T34 l0_1 x21_1).f4)) := (blk_cell BK199.out 4).trans rfl; have hcz26_5 : w21.cell? ⟨gb199, 5, none⟩ = some (.int .i64 ((rd_T34 l0_1 x21_1).f5)) := (blk_cell BK199.out 5).trans rfl; have hcz26_6 : w21.cell? ⟨gb199, 6, none⟩ = some (.bool ((rd_T34 l0_1 x21_1).f6)) := (blk_cell BK199.out 6).trans rfl; have hfz26_0 := blk_frozen BK199.out 0; have hfz26_1 := blk_frozen BK199.out 1; have hfz26_2 := blk_frozen BK199.out 2; have hfz26_3 := blk_frozen BK199.out 3; have hfz26_4 := blk_frozen BK199.out 4; have hfz26_5 := blk_frozen BK199.out 5; have hfz26_6 := blk_frozen BK199.out 6; obtain ⟨Ao27, co27, eo27⟩ := Kd.R_slice HO_6.out; subst eo27))
             go_loopg [9, 45] k2 (fun kq v9 v45 w' => ∃ (x9_3 : List (S55)) (x45_3 : Int), v45 = .int .i64 x45_3 ∧ Aside0 (spec_SelfTimes.l2 kq x3_1 x9_3 l0_1 (l0_1.length : Int) x21_1 l0_1 (l0_1.length : Int) x34_2 x6_2 (x6_2.length : Int) x45_3 a0_0 l0_1 ((rd_T34 l0_1 x21_1).f0) ((rd_T34 l0_1 x21_1).f1) ((rd_T34 l0_1 x21_1).f2) ((rd_T34 l0_1 x21_1).f3) ((rd_T34 l0_1 x21_1).f4) ((rd_T34 l0_1 x21_1).f5) ((rd_T34 l0_1 x21_1).f6) ((rd_T34 l0_1 x34_2).f0) ((rd_T34 l0_1 x34_2).f1) ((rd_T34 l0_1 x34_2).f2) ((rd_T34 l0_1 x34_2).f3) ((rd_T34 l0_1 x34_2).f4) ((rd_T34 l0_1 x34_2).f5) ((rd_T34 l0_1 x34_2).f6) = some r) ∧ Aside0 (kq ≤ k2) ∧ Aside0 (Kd.R (Kd.int .i64) 3 w' w.heap.size (fun _ => True) u3 x3_1) ∧ Aside0 (Kd.R k55 55 w' w.heap.size (fun k_ => some k_ ≠ ((.slice Ao27 x6_2.length co27) : Value).ownBlock) v9 x9_3) ∧ Aside0 (Kd.R k55 55 w' w.heap.size (fun k_ => some k_ ≠ (v9 : Value).ownBlock) (.slice Ao27 x6_2.length co27) x6_2) ∧ Aside0 (w'.heap[gb196]? = some (.cells #[.int .i64 a0_0, (.slice (some ad198) l0_1.length c0_1)] 25 (0, 0))) ∧ Aside0 (w'.heap[gb199]? = some (.cells #[.int .i64 ((rd_T34 l0_1 x21_1).f0), .int .i64 ((rd_T34 l0_1 x21_1).f1), .string ((rd_T34 l0_1 x21_1).f2), .string ((rd_T34 l0_1 x21_1).f3), .int .i64 ((rd_T34 l0_1 x21_1).f4), .int .i64 ((rd_T34 l0_1 x21_1).f5), .bool ((rd_T34 l0_1 x21_1).f6)] 34 (0, 0))) ∧ Aside0 (w'.heap[gb204]? = some (.cells #[.int .i64 ((rd_T34 l0_1 x34_2).f0), .int .i64 ((rd_T34 l0_1 x34_2).f1), .string ((rd_T34 l0_1 x34_2).f2), .string ((rd_T34 l0_1 x34_2).f3), .int .i64 ((rd_T34 l0_1 x34_2).f4), .int .i64 ((rd_T34 l0_1 x34_2).f5), .bool ((rd_T34 l0_1 x34_2).f6)] 34 (0, 0))) ∧ Aside0 (Below w.heap.size w w'))
             case atStart => exact ⟨(([] : List (S55))), (0), (by first | rfl | (simp; done) | (simp [*]; done)), H', ⟨Nat.le_refl _⟩, ⟨by (with_reducible repeat (first | apply Kd.R_alloc | apply Kd.R_drewN | apply Kd.R_drew)); exact Kd.R_mono (Kd.R_far (p := ⟨gb204, 6, none⟩) (Kd.R_far (p := ⟨gb204, 5, none⟩) (Kd.R_far (p := ⟨gb204, 4, none⟩) (Kd.R_far (p := ⟨gb204, 3, none⟩) (Kd.R_far (p := ⟨gb204, 2, none⟩) (Kd.R_far (p := ⟨gb204, 1, none⟩) (Kd.R_far (p := ⟨gb204, 0, none⟩) (Kd.R_types HO_3.out BK204.out (by decide)) (fun _ hk => hk.2) (.int .i64 ((rd_T34 l0_1 x34_2).f0))) (fun _ hk => hk.2) (.int .i64 ((rd_T34 l0_1 x34_2).f1))) (fun _ hk => hk.2) (.string ((rd_T34 l0_1 x34_2).f2))) (fun _ hk => hk.2) (.string ((rd_T34 l0_1 x34_2).f3))) (fun _ hk => hk.2) (.int .i64 ((rd_T34 l0_1 x34_2).f4))) (fun _ hk => hk.2) (.int .i64 ((rd_T34 l0_1 x34_2).f5))) (fun _ hk => hk.2) (.bool ((rd_T34 l0_1 x34_2).f6))) (fun _ hk => trivial)⟩, ⟨by first | exact Kd.R_nil _ _ _ _ _ | exact Kd.N_nil _ _ _ _ _ | exact Kd.V_nil _ _ _ _ _ | exact Kd.Q_nil _ _ _ _ _ | exact Kd.S_nil _ _ _ _ _⟩, ⟨by (with_reducible repeat (first | apply Kd.R_alloc | apply Kd.R_drewN | apply Kd.R_drew)); exact Kd.R_mono (Kd.R_far (p := ⟨gb204, 6, none⟩) (Kd.R_far (p := ⟨gb204, 5, none⟩) (Kd.R_far (p := ⟨gb204, 4, none⟩) (Kd.R_far (p := ⟨gb204, 3, none⟩) (Kd.R_far (p := ⟨gb204, 2, none⟩) (Kd.R_far (p := ⟨gb204, 1, none⟩) (Kd.R_far (p := ⟨gb204, 0, none⟩) (Kd.R_types HO_6.out BK204.out (by decide)) (fun _ hk => hk.2) (.int .i64 ((rd_T34 l0_1 x34_2).f0))) (fun _ hk => hk.2) (.int .i64 ((rd_T34 l0_1 x34_2).f1))) (fun _ hk => hk.2) (.string ((rd_T34 l0_1 x34_2).f2))) (fun _ hk => hk.2) (.string ((rd_T34 l0_1 x34_2).f3))) (fun _ hk => hk.2) (.int .i64 ((rd_T34 l0_1 x34_2).f4))) (fun _ hk => hk.2) (.int .i64 ((rd_T34 l0_1 x34_2).f5))) (fun _ hk => hk.2) (.bool ((rd_T34 l0_1 x34_2).f6))) (fun _ hk => (by simp [Value.ownBlock]))⟩, ⟨by (with_reducible repeat (first | apply blk_drewN | apply blk_drew | apply blk_alloc)); refine blk_far ?_ NB196_204.out _; (with_reducible repeat (first | apply blk_drewN | apply blk_drew | apply blk_alloc)); refine blk_far ?_ NB196_204.out _; (with_reducible repeat (first | apply blk_drewN | apply blk_drew | apply blk_alloc)); refine blk_far ?_ NB196_204.out _; (with_reducible repeat (first | apply blk_drewN | apply blk_drew | apply blk_alloc)); refine blk_far ?_ NB196_204.out _; (with_reducible repeat (first | apply blk_drewN | apply blk_drew | apply blk_alloc)); refine blk_far ?_ NB196_204.out _; (with_reducible repeat (first | apply blk_drewN | apply blk_drew | apply blk_alloc)); refine blk_far ?_ NB196_204.out _; (with_reducible repeat (first | apply blk_drewN | apply blk_drew | apply blk_alloc)); refine blk_far ?_ NB196_204.out _; (with_reducible repeat (first | apply blk_drewN | apply blk_drew | apply blk_alloc)); exact BK196.out⟩, ⟨by (with_reducible repeat (first | apply blk_drewN | apply blk_drew | apply blk_alloc)); refine blk_far ?_ NB199_204.out _; (with_reducible repeat (first | apply blk_drewN | apply blk_drew | apply blk_alloc)); refine blk_far ?_ NB199_204.out _; (with_reducible repeat (first | apply blk_drewN | apply blk_drew | apply blk_alloc)); refine blk_far ?_ NB199_204.out _; (with_reducible repeat (first | apply blk_drewN | apply blk_drew | apply blk_alloc)); refine blk_far ?_ NB199_204.out _; (with_reducible repeat (first | apply blk_drewN | apply blk_drew | apply blk_alloc)); refine blk_far ?_ NB199_204.out _; (with_reducible repeat (first | apply blk_drewN | apply blk_drew | apply blk_alloc)); refine blk_far ?_ NB199_204.out _; (with_reducible repeat (first | apply blk_drewN | apply blk_drew | apply blk_alloc)); refine blk_far ?_ NB199_204.out _; (with_reducible repeat (first | apply blk_drewN | apply blk_drew | apply blk_alloc)); exact BK199.out⟩, ⟨by (with_reducible repeat (first | apply blk_drewN | apply blk_drew | apply blk_alloc)); refine blk_put (cs := #[.int .i64 ((rd_T34 l0_1 x34_2).f0), .int .i64 ((rd_T34 l0_1 x34_2).f1), .string ((rd_T34 l0_1 x34_2).f2), .string ((rd_T34 l0_1 x34_2).f3), .int .i64 ((rd_T34 l0_1 x34_2).f4), .int .i64 ((rd_T34 l0_1 x34_2).f5), .bool false]) ?_ 6 _ rfl; (with_reducible repeat (first | apply blk_drewN | apply blk_drew | apply blk_alloc)); refine blk_put (cs := #[.int .i64 ((rd_T34 l0_1 x34_2).f0), .int .i64 ((rd_T34 l0_1 x34_2).f1), .string ((rd_T34 l0_1 x34_2).f2), .string ((rd_T34 l0_1 x34_2).f3), .int .i64 ((rd_T34 l0_1 x34_2).f4), .int .i64 0, .bool false]) ?_ 5 _ rfl; (with_reducible repeat (first | apply blk_drewN | apply blk_drew | apply blk_alloc)); refine blk_put (cs := #[.int .i64 ((rd_T34 l0_1 x34_2).f0), .int .i64 ((rd_T34 l0_1 x34_2).f1), .string ((rd_T34 l0_1 x34_2).f2), .string ((rd_T34 l0_1 x34_2).f3), .int .i64 0, .int .i64 0, .bool false]) ?_ 4 _ rfl; (with_reducible repeat (first | apply blk_drewN | apply blk_drew | apply blk_alloc)); refine blk_put (cs := #[.int .i64 ((rd_T34 l0_1 x34_2).f0), .int .i64 ((rd_T34 l0_1 x34_2).f1), .string ((rd_T34 l0_1 x34_2).f2), .string ⟨#[]⟩, .int .i64 0, .int .i64 0, .bool false]) ?_ 3 _ rfl; (with_reducible repeat (first | apply blk_drewN | apply blk_drew | apply blk_alloc)); refine blk_put (cs := #[.int .i64 ((rd_T34 l0_1 x34_2).f0), .int .i64 ((rd_T34 l0_1 x34_2).f1), .string ⟨#[]⟩, .string ⟨#[]⟩, .int .i64 0, .int .i64 0, .bool false]) ?_ 2 _ rfl; (with_reducible repeat (first | apply blk_drewN | apply blk_drew | apply blk_alloc)); refine blk_put (cs := #[.int .i64 ((rd_T34 l0_1 x34_2).f0), .int .i64 0, .string ⟨#[]⟩, .string ⟨#[]⟩, .int .i64 0, .int .i64 0, .bool false]) ?_ 1 _ rfl; (with_reducible repeat (first | apply blk_drewN | apply blk_drew | apply blk_alloc)); refine blk_put (cs := #[.int .i64 0, .int .i64 0, .string ⟨#[]⟩, .string ⟨#[]⟩, .int .i64 0, .int .i64 0, .bool false]) ?_ 0 _ rfl; (with_reducible repeat (first | apply blk_drewN | apply blk_drew | apply blk_alloc)); exact BK204.out⟩, ⟨by with_reducible repeat (first | exact HB.out | apply below_alloc | apply pw_below_drewN | apply below_drew1 | refine below_set ?_ GE196.out | refine below_set ?_ GE199.out | refine below_set ?_ GE204.out)⟩⟩
             case round =>
              clear H'
              obtain ⟨x9_3, x45_3, rfl, HA, HK3, HO_3, HO_9, HO_43, BK196, BK199, BK204, HB⟩ := hrel
              cases gk with
              | zero => exact absurd HA.out (by simp [spec_SelfTimes.l2])
              | succ k3 =>
               have H := HA.out
               clear HA
               simp only [spec_SelfTimes.l2] at H
               by_cases c28 : x45_3 < (x6_2.length : Int)
               ·rw [if_pos c28] at H
                have c28b0 : decide (x45_3 < (x6_2.length : Int)) = true := decide_eq_true c28
                clear c28
                by_cases c29 : 0 ≤ x45_3
                ·rw [if_pos c29] at H
                 have c29b0 : decide (0 ≤ x45_3) = true := decide_eq_true c29
                 clear c29
                 by_cases c30 : x45_3 < (x6_2.length : Int)
                 ·rw [if_pos c30] at H
                  have c30b0 : decide (x45_3 < (x6_2.length : Int)) = true := decide_eq_true c30
                  clear c30
                  by_cases c31 : ((rd_T34 l0_1 x34_2).f4) > ((rd_T55 x6_2 x45_3).f0)
                  ·rw [if_pos c31] at H
                   have c31b0 : decide (((rd_T55 x6_2 x45_3).f0) < ((rd_T34 l0_1 x34_2).f4)) = true := decide_eq_true c31
                   clear c31
                   replace H := Option.bind_eq_some_iff.mp H
                   obtain ⟨t207, A320, H⟩ := H
                   replace H : (if x9_3.length < 8796093022208 then ((some (x9_3 ++ [(⟨(rd_T55 x6_2 x45_3).f0, t207⟩ : S55)] : List (S55))).bind fun y208 => (if ((rd_T34 l0_1 x34_2).f5) < ((rd_T55 x6_2 x45_3).f1) then ((spec_l23More.f ((rd_T55 x6_2 x45_3).f0) ((rd_T34 l0_1 x34_2).f5)).bind fun t211 => (if y208.length < 8796093022208 then (spec_SelfTimes.l2 k3 x3_1 (y208 ++ [(⟨t211, (rd_T55 x6_2 x45_3).f1⟩ : S55)]) l0_1 (l0_1.length : Int) x21_1 l0_1 (l0_1.length : Int) x34_2 x6_2 (x6_2.length : Int) (wrap64 (x45_3 + 1)) a0_0 l0_1 ((rd_T34 l0_1 x21_1).f0) ((rd_T34 l0_1 x21_1).f1) ((rd_T34 l0_1 x21_1).f2) ((rd_T34 l0_1 x21_1).f3) ((rd_T34 l0_1 x21_1).f4) ((rd_T34 l0_1 x21_1).f5) ((rd_T34 l0_1 x21_1).f6) ((rd_T34 l0_1 x34_2).f0) ((rd_T34 l0_1 x34_2).f1) ((rd_T34 l0_1 x34_2).f2) ((rd_T34 l0_1 x34_2).f3) ((rd_T34 l0_1 x34_2).f4) ((rd_T34 l0_1 x34_2).f5) ((rd_T34 l0_1 x34_2).f6)) else (none))) else (spec_SelfTimes.l2 k3 x3_1 y208 l0_1 (l0_1.length : Int) x21_1 l0_1 (l0_1.length : Int) x34_2 x6_2 (x6_2.length : Int) (wrap64 (x45_3 + 1)) a0_0 l0_1 ((rd_T34 l0_1 x21_1).f0) ((rd_T34 l0_1 x21_1).f1) ((rd_T34 l0_1 x21_1).f2) ((rd_T34 l0_1 x21_1).f3) ((rd_T34 l0_1 x21_1).f4) ((rd_T34 l0_1 x21_1).f5) ((rd_T34 l0_1 x21_1).f6) ((rd_T34 l0_1 x34_2).f0) ((rd_T34 l0_1 x34_2).f1) ((rd_T34 l0_1 x34_2).f2) ((rd_T34 l0_1 x34_2).f3) ((rd_T34 l0_1 x34_2).f4) ((rd_T34 l0_1 x34_2).f5) ((rd_T34 l0_1 x34_2).f6)))) else (none)) = some r := H
                   have A32 := Aside0.mk A320
                   clear A320
                   by_cases c33 : x9_3.length < 8796093022208
                   ·rw [if_pos c33] at H
                    have LMc33 := Aside0.mk c33
                    clear c33
                    obtain ⟨y208, hy208⟩ : ∃ y_ : List (S55), y_ = (x9_3 ++ [(⟨(rd_T55 x6_2 x45_3).f0, t207⟩ : S55)]) := ⟨_, rfl⟩
                    replace H : (if ((rd_T34 l0_1 x34_2).f5) < ((rd_T55 x6_2 x45_3).f1) then ((spec_l23More.f ((rd_T55 x6_2 x45_3).f0) ((rd_T34 l0_1 x34_2).f5)).bind fun t211 => (if y208.length < 8796093022208 then (spec_SelfTimes.l2 k3 x3_1 (y208 ++ [(⟨t211, (rd_T55 x6_2 x45_3).f1⟩ : S55)]) l0_1 (l0_1.length : Int) x21_1 l0_1 (l0_1.length : Int) x34_2 x6_2 (x6_2.length : Int) (wrap64 (x45_3 + 1)) a0_0 l0_1 ((rd_T34 l0_1 x21_1).f0) ((rd_T34 l0_1 x21_1).f1) ((rd_T34 l0_1 x21_1).f2) ((rd_T34 l0_1 x21_1).f3) ((rd_T34 l0_1 x21_1).f4) ((rd_T34 l0_1 x21_1).f5) ((rd_T34 l0_1 x21_1).f6) ((rd_T34 l0_1 x34_2).f0) ((rd_T34 l0_1 x34_2).f1) ((rd_T34 l0_1 x34_2).f2) ((rd_T34 l0_1 x34_2).f3) ((rd_T34 l0_1 x34_2).f4) ((rd_T34 l0_1 x34_2).f5) ((rd_T34 l0_1 x34_2).f6)) else (none))) else (spec_SelfTimes.l2 k3 x3_1 y208 l0_1 (l0_1.length : Int) x21_1 l0_1 (l0_1.length : Int) x34_2 x6_2 (x6_2.length : Int) (wrap64 (x45_3 + 1)) a0_0 l0_1 ((rd_T34 l0_1 x21_1).f0) ((rd_T34 l0_1 x21_1).f1) ((rd_T34 l0_1 x21_1).f2) ((rd_T34 l0_1 x21_1).f3) ((rd_T34 l0_1 x21_1).f4) ((rd_T34 l0_1 x21_1).f5) ((rd_T34 l0_1 x21_1).f6) ((rd_T34 l0_1 x34_2).f0) ((rd_T34 l0_1 x34_2).f1) ((rd_T34 l0_1 x34_2).f2) ((rd_T34 l0_1 x34_2).f3) ((rd_T34 l0_1 x34_2).f4) ((rd_T34 l0_1 x34_2).f5) ((rd_T34 l0_1 x34_2).f6))) = some r := by first | (rw [hy208]; with_reducible exact H) | (have H2_ := (Option.bind_some _ _).symm.trans H; rw [hy208]; with_reducible exact H2_) | (have H2_ := (Option.bind_some _ _).symm.trans H; with_reducible exact H2_) | with_reducible exact H | (rw [hy208]; exact H) | exact H
                    have Ny208 := Aside0.mk hy208
                    clear hy208
                    by_cases c34 : ((rd_T34 l0_1 x34_2).f5) < ((rd_T55 x6_2 x45_3).f1)
                    ·rw [if_pos c34] at H
                     have c34b0 : decide (((rd_T34 l0_1 x34_2).f5) < ((rd_T55 x6_2 x45_3).f1)) = true := decide_eq_true c34
                     clear c34
                     replace H := Option.bind_eq_some_iff.mp H
                     obtain ⟨t211, A350, H⟩ := H
                     replace H : (if y208.length < 8796093022208 then (spec_SelfTimes.l2 k3 x3_1 (y208 ++ [(⟨t211, (rd_T55 x6_2 x45_3).f1⟩ : S55)]) l0_1 (l0_1.length : Int) x21_1 l0_1 (l0_1.length : Int) x34_2 x6_2 (x6_2.length : Int) (wrap64 (x45_3 + 1)) a0_0 l0_1 ((rd_T34 l0_1 x21_1).f0) ((rd_T34 l0_1 x21_1).f1) ((rd_T34 l0_1 x21_1).f2) ((rd_T34 l0_1 x21_1).f3) ((rd_T34 l0_1 x21_1).f4) ((rd_T34 l0_1 x21_1).f5) ((rd_T34 l0_1 x21_1).f6) ((rd_T34 l0_1 x34_2).f0) ((rd_T34 l0_1 x34_2).f1) ((rd_T34 l0_1 x34_2).f2) ((rd_T34 l0_1 x34_2).f3) ((rd_T34 l0_1 x34_2).f4) ((rd_T34 l0_1 x34_2).f5) ((rd_T34 l0_1 x34_2).f6)) else (none)) = some r := H
                     have A35 := Aside0.mk A350
                     clear A350
                     by_cases c36 : y208.length < 8796093022208
                     ·rw [if_pos c36] at H
                      have LMc36 := Aside0.mk c36
                      clear c36
                      obtain ⟨y212, hy212⟩ : ∃ y_ : List (S55), y_ = (y208 ++ [(⟨t211, (rd_T55 x6_2 x45_3).f1⟩ : S55)]) := ⟨_, rfl⟩
                      replace H : (spec_SelfTimes.l2 k3 x3_1 y212 l0_1 (l0_1.length : Int) x21_1 l0_1 (l0_1.length : Int) x34_2 x6_2 (x6_2.length : Int) (wrap64 (x45_3 + 1)) a0_0 l0_1 ((rd_T34 l0_1 x21_1).f0) ((rd_T34 l0_1 x21_1).f1) ((rd_T34 l0_1 x21_1).f2) ((rd_T34 l0_1 x21_1).f3) ((rd_T34 l0_1 x21_1).f4) ((rd_T34 l0_1 x21_1).f5) ((rd_T34 l0_1 x21_1).f6) ((rd_T34 l0_1 x34_2).f0) ((rd_T34 l0_1 x34_2).f1) ((rd_T34 l0_1 x34_2).f2) ((rd_T34 l0_1 x34_2).f3) ((rd_T34 l0_1 x34_2).f4) ((rd_T34 l0_1 x34_2).f5) ((rd_T34 l0_1 x34_2).f6)) = some r := by first | (rw [hy212]; with_reducible exact H) | (have H2_ := (Option.bind_some _ _).symm.trans H; rw [hy212]; with_reducible exact H2_) | (have H2_ := (Option.bind_some _ _).symm.trans H; with_reducible exact H2_) | with_reducible exact H | (rw [hy212]; exact H) | exact H
                      have Ny212 := Aside0.mk hy212
                      clear hy212
                      have H' := Aside0.mk H
                      clear H
                      have p205 : 0 ≤ (x45_3 : Int) := of_decide_eq_true (by assumption)
                      have q205 : x45_3 < (x6_2.length : Int) := of_decide_eq_true (by assumption)
                      obtain ⟨ad205, e205, hx205_0, hx205_1⟩ := at_T55 (Kd.R_reads' HO_43.out).2.2 x45_3 p205 q205
                      cases e205
                      replace p205 := eq_true p205
                      replace q205 := eq_true q205
                      try go_wp2_with (first | ((with_reducible refine gate_dst (N := 11) rfl ?_); refine box_event ?hg (N := 11) ?hd (cs := #[.int .i64 0, .int .i64 0]) (t := 55) ?hr ?_; (case hd => rfl); (case hg => rfl); (case hr => first | (go_simp; done) | (go_simp; rfl)); intro gb206 hg w37 hbox hb; have n0_ := Aside0.mk (Kd.R_below (by (with_reducible repeat (first | apply Kd.R_alloc | apply Kd.R_drewN | apply Kd.R_drew)); exact HO_3.out) hb); have n1_ := Aside0.mk (Kd.R_below (Kd.R_elderB (by (with_reducible repeat (first | apply Kd.R_alloc | apply Kd.R_drewN | apply Kd.R_drew)); exact HO_9.out) gb206 (Nat.le_of_eq hg.symm)) hb); have n2_ := Aside0.mk (Kd.R_below (Kd.R_elderB (by (with_reducible repeat (first | apply Kd.R_alloc | apply Kd.R_drewN | apply Kd.R_drew)); exact HO_43.out) gb206 (Nat.le_of_eq hg.symm)) hb); have n3_ := Aside0.mk (blk_below (g := gb196) (by (with_reducible repeat (first | apply blk_drewN | apply blk_drew | apply blk_alloc)); exact BK196.out) hb); have n4_ := Aside0.mk (blk_below (g := gb199) (by (with_reducible repeat (first | apply blk_drewN | apply blk_drew | apply blk_alloc)); exact BK199.out) hb); have n5_ := Aside0.mk (blk_below (g := gb204) (by (with_reducible repeat (first | apply blk_drewN | apply blk_drew | apply blk_alloc)); exact BK204.out) hb); have n6_ := Aside0.mk (below_step (by with_reducible repeat (first | exact HB.out | apply below_alloc | apply pw_below_drewN | apply below_drew1 | refine below_set ?_ GE196.out | refine below_set ?_ GE199.out | refine below_set ?_ GE204.out)) hb); have n7_ := Aside0.mk (hbox); have n8_ := Aside0.mk ((by rw [hg]; exact (below_size (by with_reducible repeat (first | exact HB.out | apply below_alloc | apply pw_below_drewN | apply below_drew1 | refine below_set ?_ GE196.out | refine below_set ?_ GE199.out | refine below_set ?_ GE204.out))) : w.heap.size ≤ gb206)); have n9_ := n8_; have n10_ := Aside0.mk ((by rw [hg]; exact Nat.ne_of_lt (blk_lt (g := gb196) (by (with_reducible repeat (first | apply blk_drewN | apply blk_drew | apply blk_alloc)); exact BK196.out)) : gb196 ≠ gb206)); have n11_ := Aside0.mk ((by rw [hg]; exact Nat.ne_of_gt (blk_lt (g := gb196) (by (with_reducible repeat (first | apply blk_drewN | apply blk_drew | apply blk_alloc)); exact BK196.out)) : gb206 ≠ gb196)); have n12_ := Aside0.mk ((by rw [hg]; exact Nat.ne_of_lt (blk_lt (g := gb199) (by (with_reducible repeat (first | apply blk_drewN | apply blk_drew | apply blk_alloc)); exact BK199.out)) : gb199 ≠ gb206)); have n13_ := Aside0.mk ((by rw [hg]; exact Nat.ne_of_gt (blk_lt (g := gb199) (by (with_reducible repeat (first | apply blk_drewN | apply blk_drew | apply blk_alloc)); exact BK199.out)) : gb206 ≠ gb199)); have n14_ := Aside0.mk ((by rw [hg]; exact Nat.ne_of_lt (blk_lt (g := gb204) (by (with_reducible repeat (first | apply blk_drewN | apply blk_drew | apply blk_alloc)); exact BK204.out)) : gb204 ≠ gb206)); have n15_ := Aside0.mk ((by rw [hg]; exact Nat.ne_of_gt (blk_lt (g := gb204) (by (with_reducible repeat (first | apply blk_drewN | apply blk_drew | apply blk_alloc)); exact BK204.out)) : gb206 ≠ gb204)); clear HO_3; clear HO_9; clear HO_43; clear BK196; clear BK199; clear BK204; clear HB; have HO_3 := n0_; have HO_9 := n1_; have HO_43 := n2_; have BK196 := n3_; have BK199 := n4_; have BK204 := n5_; have HB := n6_; have BK206 := n7_; have GW206 := n8_; have GE206 := n9_; have NB196_206 := n10_; have NB206_196 := n11_; have NB199_206 := n12_; have NB206_199 := n13_; have NB204_206 := n14_; have NB206_204 := n15_; clear n0_ n1_ n2_ n3_ n4_ n5_ n6_ n7_ n8_ n9_ n10_ n11_ n12_ n13_ n14_ n15_; clear hb hbox hg; have hnb38 := NB206_196.out; have hnc38 := NB196_206.out; have hnb39 := NB206_199.out; have hnc39 := NB199_206.out; have hnb40 := NB206_204.out; have hnc40 := NB204_206.out; have hcz41_0 : w37.cell? ⟨gb206, 0, none⟩ = some (.int .i64 0) := (blk_cell BK206.out 0).trans rfl; have hcz41_1 : w37.cell? ⟨gb206, 1, none⟩ = some (.int .i64 0) := (blk_cell BK206.out 1).trans rfl; have hfz41_0 := blk_frozen BK206.out 0; have hfz41_1 := blk_frozen BK206.out 1; have hnb42 := NB204_196.out; have hnc42 := NB196_204.out; have hnb43 := NB204_199.out; have hnc43 := NB199_204.out; have hcz44_0 : w37.cell? ⟨gb204, 0, none⟩ = some (.int .i64 ((rd_T34 l0_1 x34_2).f0)) := (blk_cell BK204.out 0).trans rfl; have hcz44_1 : w37.cell? ⟨gb204, 1, none⟩ = some (.int .i64 ((rd_T34 l0_1 x34_2).f1)) := (blk_cell BK204.out 1).trans rfl; have hcz44_2 : w37.cell? ⟨gb204, 2, none⟩ = some (.string ((rd_T34 l0_1 x34_2).f2)) := (blk_cell BK204.out 2).trans rfl; have hcz44_3 : w37.cell? ⟨gb204, 3, none⟩ = some (.string ((rd_T34 l0_1 x34_2).f3)) := (blk_cell BK204.out 3).trans rfl; have hcz44_4 : w37.cell? ⟨gb204, 4, none⟩ = some (.int .i64 ((rd_T34 l0_1 x34_2).f4)) := (blk_cell BK204.out 4).trans rfl; have hcz44_5 : w37.cell? ⟨gb204, 5, none⟩ = some (.int .i64 ((rd_T34 l0_1 x34_2).f5)) := (blk_cell BK204.out 5).trans rfl; have hcz44_6 : w37.cell? ⟨gb204, 6, none⟩ = some (.bool ((rd_T34 l0_1 x34_2).f6)) := (blk_cell BK204.out 6).trans rfl; have hfz44_0 := blk_frozen BK204.out 0; have hfz44_1 := blk_frozen BK204.out 1; have hfz44_2 := blk_frozen BK204.out 2; have hfz44_3 := blk_frozen BK204.out 3; have hfz44_4 := blk_frozen BK204.out 4; have hfz44_5 := blk_frozen BK204.out 5; have hfz44_6 := blk_frozen BK204.out 6))
                      have n0_ : Aside0 (Kd.R (Kd.int .i64) 3 ((w37.setCell ⟨gb206, 0, none⟩ (.int .i64 ((rd_T55 x6_2 x45_3).f0))).setCell ⟨gb206, 1, none⟩ (.int .i64 ((rd_T55 x6_2 x45_3).f1))) w.heap.size (fun _ => True) u3 x3_1) := ⟨by (with_reducible repeat (first | apply Kd.R_alloc | apply Kd.R_drewN | apply Kd.R_drew)); exact Kd.R_mono (Kd.R_far (p := ⟨gb206, 1, none⟩) (Kd.R_far (p := ⟨gb206, 0, none⟩) (Kd.R_types HO_3.out BK206.out (by decide)) (fun _ hk => hk.2) (.int .i64 ((rd_T55 x6_2 x45_3).f0))) (fun _ hk => hk.2) (.int .i64 ((rd_T55 x6_2 x45_3).f1))) (fun _ hk => trivial)⟩
                      have n1_ : Aside0 (Kd.R k55 55 ((w37.setCell ⟨gb206, 0, none⟩ (.int .i64 ((rd_T55 x6_2 x45_3).f0))).setCell ⟨gb206, 1, none⟩ (.int .i64 ((rd_T55 x6_2 x45_3).f1))) w.heap.size (fun k_ => some k_ ≠ (.slice (some ad205) x6_2.length co27 : Value).ownBlock ∧ k_ ≠ gb206) u9 x9_3) := ⟨by (with_reducible repeat (first | apply Kd.R_alloc | apply Kd.R_drewN | apply Kd.R_drew)); exact Kd.R_mono (Kd.R_far (p := ⟨gb206, 1, none⟩) (Kd.R_far (p := ⟨gb206, 0, none⟩) (Kd.R_mono HO_9.out (fun k_ hk => (⟨hk, hk.2⟩ : _ ∧ k_ ≠ gb206))) (fun _ hk => hk.2) (.int .i64 ((rd_T55 x6_2 x45_3).f0))) (fun _ hk => hk.2) (.int .i64 ((rd_T55 x6_2 x45_3).f1))) (fun _ hk => ⟨hk.1.1, hk.1.2⟩)⟩
                      have n2_ : Aside0 (Kd.R k55 55 ((w37.setCell ⟨gb206, 0, none⟩ (.int .i64 ((rd_T55 x6_2 x45_3).f0))).setCell ⟨gb206, 1, none⟩ (.int .i64 ((rd_T55 x6_2 x45_3).f1))) w.heap.size (fun k_ => some k_ ≠ (u9 : Value).ownBlock ∧ k_ ≠ gb206) (.slice (some ad205) x6_2.length co27) x6_2) := ⟨by (with_reducible repeat (first | apply Kd.R_alloc | apply Kd.R_drewN | apply Kd.R_drew)); exact Kd.R_mono (Kd.R_far (p := ⟨gb206, 1, none⟩) (Kd.R_far (p := ⟨gb206, 0, none⟩) (Kd.R_mono HO_43.out (fun k_ hk => (⟨hk, hk.2⟩ : _ ∧ k_ ≠ gb206))) (fun _ hk => hk.2) (.int .i64 ((rd_T55 x6_2 x45_3).f0))) (fun _ hk => hk.2) (.int .i64 ((rd_T55 x6_2 x45_3).f1))) (fun _ hk => ⟨hk.1.1, hk.1.2⟩)⟩
                      have n3_ : Aside0 (((w37.setCell ⟨gb206, 0, none⟩ (.int .i64 ((rd_T55 x6_2 x45_3).f0))).setCell ⟨gb206, 1, none⟩ (.int .i64 ((rd_T55 x6_2 x45_3).f1))).heap[gb196]? = some (.cells #[.int .i64 a0_0, .slice (some ad198) l0_1.length c0_1] 25 (0, 0))) := ⟨by (with_reducible repeat (first | apply blk_drewN | apply blk_drew | apply blk_alloc)); refine blk_far ?_ NB196_206.out _; (with_reducible repeat (first | apply blk_drewN | apply blk_drew | apply blk_alloc)); refine blk_far ?_ NB196_206.out _; (with_reducible repeat (first | apply blk_drewN | apply blk_drew | apply blk_alloc)); exact BK196.out⟩
                      have n4_ : Aside0 (((w37.setCell ⟨gb206, 0, none⟩ (.int .i64 ((rd_T55 x6_2 x45_3).f0))).setCell ⟨gb206, 1, none⟩ (.int .i64 ((rd_T55 x6_2 x45_3).f1))).heap[gb199]? = some (.cells #[.int .i64 ((rd_T34 l0_1 x21_1).f0), .int .i64 ((rd_T34 l0_1 x21_1).f1), .string ((rd_T34 l0_1 x21_1).f2), .string ((rd_T34 l0_1 x21_1).f3), .int .i64 ((rd_T34 l0_1 x21_1).f4), .int .i64 ((rd_T34 l0_1 x21_1).f5), .bool ((rd_T34 l0_1 x21_1).f6)] 34 (0, 0))) := ⟨by (with_reducible repeat (first | apply blk_drewN | apply blk_drew | apply blk_alloc)); refine blk_far ?_ NB199_206.out _; (with_reducible repeat (first | apply blk_drewN | apply blk_drew | apply blk_alloc)); refine blk_far ?_ NB199_206.out _; (with_reducible repeat (first | apply blk_drewN | apply blk_drew | apply blk_alloc)); exact BK199.out⟩
                      have n5_ : Aside0 (((w37.setCell ⟨gb206, 0, none⟩ (.int .i64 ((rd_T55 x6_2 x45_3).f0))).setCell ⟨gb206, 1, none⟩ (.int .i64 ((rd_T55 x6_2 x45_3).f1))).heap[gb204]? = some (.cells #[.int .i64 ((rd_T34 l0_1 x34_2).f0), .int .i64 ((rd_T34 l0_1 x34_2).f1), .string ((rd_T34 l0_1 x34_2).f2), .string ((rd_T34 l0_1 x34_2).f3), .int .i64 ((rd_T34 l0_1 x34_2).f4), .int .i64 ((rd_T34 l0_1 x34_2).f5), .bool ((rd_T34 l0_1 x34_2).f6)] 34 (0, 0))) := ⟨by (with_reducible repeat (first | apply blk_drewN | apply blk_drew | apply blk_alloc)); refine blk_far ?_ NB204_206.out _; (with_reducible repeat (first | apply blk_drewN | apply blk_drew | apply blk_alloc)); refine blk_far ?_ NB204_206.out _; (with_reducible repeat (first | apply blk_drewN | apply blk_drew | apply blk_alloc)); exact BK204.out⟩
                      have n6_ : Aside0 (((w37.setCell ⟨gb206, 0, none⟩ (.int .i64 ((rd_T55 x6_2 x45_3).f0))).setCell ⟨gb206, 1, none⟩ (.int .i64 ((rd_T55 x6_2 x45_3).f1))).heap[gb206]? = some (.cells #[.int .i64 ((rd_T55 x6_2 x45_3).f0), .int .i64 ((rd_T55 x6_2 x45_3).f1)] 55 (0, 0))) := ⟨by (with_reducible repeat (first | apply blk_drewN | apply blk_drew | apply blk_alloc)); refine blk_put (cs := #[.int .i64 ((rd_T55 x6_2 x45_3).f0), .int .i64 0]) ?_ 1 _ rfl; (with_reducible repeat (first | apply blk_drewN | apply blk_drew | apply blk_alloc)); refine blk_put (cs := #[.int .i64 0, .int .i64 0]) ?_ 0 _ rfl; (with_reducible repeat (first | apply blk_drewN | apply blk_drew | apply blk_alloc)); exact BK206.out⟩
                      have n7_ : Aside0 (Below w.heap.size w ((w37.setCell ⟨gb206, 0, none⟩ (.int .i64 ((rd_T55 x6_2 x45_3).f0))).setCell ⟨gb206, 1, none⟩ (.int .i64 ((rd_T55 x6_2 x45_3).f1)))) := ⟨by with_reducible repeat (first | exact HB.out | apply below_alloc | apply pw_below_drewN | apply below_drew1 | refine below_set ?_ GE196.out | refine below_set ?_ GE199.out | refine below_set ?_ GE204.out | refine below_set ?_ GE206.out)⟩
                      (try clear HO_3)
                      (try clear HO_9)
                      (try clear HO_43)
                      (try clear BK196)
                      (try clear BK199)
                      (try clear BK204)
                      (try clear BK206)
                      (try clear HB)
                      generalize ((w37.setCell ⟨gb206, 0, none⟩ (.int .i64 ((rd_T55 x6_2 x45_3).f0))).setCell ⟨gb206, 1, none⟩ (.int .i64 ((rd_T55 x6_2 x45_3).f1))) = w45 at n0_ n1_ n2_ n3_ n4_ n5_ n6_ n7_ ⊢
                      have HO_3 := n0_
                      have HO_9 := n1_
                      have HO_43 := n2_
                      have BK196 := n3_
                      have BK199 := n4_
                      have BK204 := n5_
                      have BK206 := n6_
                      have HB := n7_
                      clear n0_ n1_ n2_ n3_ n4_ n5_ n6_ n7_
                      have n0_ := Aside0.mk (Kd.R_drew HO_3.out)
                      have n1_ := Aside0.mk (Kd.R_drew HO_9.out)
                      have n2_ := Aside0.mk (Kd.R_drew HO_43.out)
                      have n3_ := Aside0.mk (blk_drew BK196.out)
                      have n4_ := Aside0.mk (blk_drew BK199.out)
                      have n5_ := Aside0.mk (blk_drew BK204.out)
                      have n6_ := Aside0.mk (blk_drew BK206.out)
                      have n7_ := Aside0.mk (below_drew1 HB.out)
                      clear HO_3
                      clear HO_9
                      clear HO_43
                      clear BK196
                      clear BK199
                      clear BK204
                      clear BK206
                      clear HB
                      have HO_3 := n0_
                      have HO_9 := n1_
                      have HO_43 := n2_
                      have BK196 := n3_
                      have BK199 := n4_
                      have BK204 := n5_
                      have BK206 := n6_
                      have HB := n7_
                      clear n0_ n1_ n2_ n3_ n4_ n5_ n6_ n7_
                      refine start_ (n := 12) (S := fun w' => w'.cell? ⟨gb206, 0, none⟩ = some (.int .i64 ((rd_T55 x6_2 x45_3).f0)) ∧ w'.cell? ⟨gb206, 1, none⟩ = some (.int .i64 ((rd_T55 x6_2 x45_3).f1)) ∧ w'.cell? ⟨gb204, 0, none⟩ = some (.int .i64 ((rd_T34 l0_1 x34_2).f0)) ∧ w'.cell? ⟨gb204, 1, none⟩ = some (.int .i64 ((rd_T34 l0_1 x34_2).f1)) ∧ w'.cell? ⟨gb204, 2, none⟩ = some (.string ((rd_T34 l0_1 x34_2).f2)) ∧ w'.cell? ⟨gb204, 3, none⟩ = some (.string ((rd_T34 l0_1 x34_2).f3)) ∧ w'.cell? ⟨gb204, 4, none⟩ = some (.int .i64 ((rd_T34 l0_1 x34_2).f4)) ∧ w'.cell? ⟨gb204, 5, none⟩ = some (.int .i64 ((rd_T34 l0_1 x34_2).f5)) ∧ w'.cell? ⟨gb204, 6, none⟩ = some (.bool ((rd_T34 l0_1 x34_2).f6))) (ds := []) #[false, false, false, false, false, false, false, false, false, false, false, false] (by kernel_rfl) rfl rfl ⟨(blk_cell BK206.out 0).trans rfl, (blk_cell BK206.out 1).trans rfl, (blk_cell BK204.out 0).trans rfl, (blk_cell BK204.out 1).trans rfl, (blk_cell BK204.out 2).trans rfl, (blk_cell BK204.out 3).trans rfl, (blk_cell BK204.out 4).trans rfl, (blk_cell BK204.out 5).trans rfl, (blk_cell BK204.out 6).trans rfl⟩ (fun hHeld => ?_); refine with_tabW spec_SelfTimes.tab17 spec_SelfTimes.bits17 (fun HT_ HW_ => ?_)
                      generalize w45.drew = w46 at HO_3 HO_9 HO_43 BK196 BK199 BK204 BK206 HB hHeld ⊢
                      refine pure_ (i := 0) (N := some 54) (v := ?_) (a' := ?_) #[true, false, false, false, false, false, false, false, false, false, false, false] rfl rfl (any_of HT_.out (by kernel_rfl)) (fun _ _ _ h => h) (Or.inl ⟨by rfl, ?_⟩) ?_ ?_
                      rotate_left
                      ·intro w'
                       go_simp
                       with_reducible rfl
                      rotate_left
                      ·simp only [Act.put, List.setIfInBounds_toArray, List.set_cons_zero, List.set_cons_succ, i64_w, i32_w]
                       rfl
                      refine pure_ (i := 1) (N := some 55) (v := ?_) (a' := ?_) #[true, true, false, false, false, false, false, false, false, false, false, false] rfl rfl (any_of HT_.out (by kernel_rfl)) (fun _ _ _ h => h) (Or.inl ⟨by rfl, ?_⟩) ?_ ?_
                      rotate_left
                      ·intro w'
                       go_simp
                       with_reducible rfl
                      rotate_left
                      ·simp only [Act.put, List.setIfInBounds_toArray, List.set_cons_zero, List.set_cons_succ, i64_w, i32_w]
                       rfl
                      refine pure_ (i := 3) (N := some 57) (v := ?_) (a' := ?_) #[true, true, false, true, false, false, false, false, false, false, false, false] rfl rfl (any_of HT_.out (by kernel_rfl)) (fun _ _ _ h => h) (Or.inl ⟨by rfl, ?_⟩) ?_ ?_
                      rotate_left
                      ·intro w'
                       go_simp
                       with_reducible rfl
                      rotate_left
                      ·simp only [Act.put, List.setIfInBounds_toArray, List.set_cons_zero, List.set_cons_succ, i64_w, i32_w]
                       rfl
                      refine pure_ (i := 5) (N := some 59) (v := ?_) (a' := ?_) #[true, true, false, true, false, true, false, false, false, false, false, false] rfl rfl (any_of HT_.out (by kernel_rfl)) (fun _ _ _ h => h) (Or.inl ⟨by rfl, ?_⟩) ?_ ?_
                      rotate_left
                      ·intro w'
                       go_simp
                       with_reducible rfl
                      rotate_left
                      ·simp only [Act.put, List.setIfInBounds_toArray, List.set_cons_zero, List.set_cons_succ, i64_w, i32_w]
                       rfl
                      refine take_ (i := 2) (N := some 56) (v := ?_) (a' := ?_) #[true, true, true, true, false, true, false, false, false, false, false, false] rfl rfl (take_ofW HT_.out HW_.out (by kernel_rfl)) (fun _ _ _ h => h) (Or.inl ⟨by rfl, ?_⟩) hHeld ?_ ?_
                      rotate_left
                      ·rintro w' ⟨s0, s1, s2, s3, s4, s5, s6, s7, s8⟩
                       go_simp
                       with_reducible rfl
                      rotate_left
                      ·simp only [Act.put, List.setIfInBounds_toArray, List.set_cons_zero, List.set_cons_succ, i64_w, i32_w]
                       rfl
                      refine take_ (i := 4) (N := some 58) (v := ?_) (a' := ?_) #[true, true, true, true, true, true, false, false, false, false, false, false] rfl rfl (take_ofW HT_.out HW_.out (by kernel_rfl)) (fun _ _ _ h => h) (Or.inl ⟨by rfl, ?_⟩) hHeld ?_ ?_
                      rotate_left
                      ·rintro w' ⟨s0, s1, s2, s3, s4, s5, s6, s7, s8⟩
                       go_simp
                       with_reducible rfl
                      rotate_left
                      ·simp only [Act.put, List.setIfInBounds_toArray, List.set_cons_zero, List.set_cons_succ, i64_w, i32_w]
                       rfl
                      refine take_ (i := 6) (N := some 60) (v := ?_) (a' := ?_) #[true, true, true, true, true, true, true, false, false, false, false, false] rfl rfl (take_ofW HT_.out HW_.out (by kernel_rfl)) (fun _ _ _ h => h) (Or.inl ⟨by rfl, ?_⟩) hHeld ?_ ?_
                      rotate_left
                      ·rintro w' ⟨s0, s1, s2, s3, s4, s5, s6, s7, s8⟩
                       go_simp
                       with_reducible rfl
                      rotate_left
                      ·simp only [Act.put, List.setIfInBounds_toArray, List.set_cons_zero, List.set_cons_succ, i64_w, i32_w]
                       rfl
                      refine one_ (i := 7) (N := some 61) #[true, true, true, true, true, true, true, true, false, false, false, false] rfl rfl (one_of HT_.out (by kernel_rfl)) (by decide) (fun K hK => ?_)
                      refine goes_ Try.func24 (by kernel_rfl) rfl #[.int .i64 ((rd_T55 x6_2 x45_3).f1), .int .i64 ((rd_T34 l0_1 x34_2).f4)] (by rfl) rfl rfl (by (try simp only [List.map_toArray, List.map_cons, List.map_nil]); first | done | rfl) ?_
                      with_reducible refine (spec_l23Less.calls ((rd_T55 x6_2 x45_3).f1) ((rd_T34 l0_1 x34_2).f4) t207 _ A32.out).mono ?_
                      rintro e w' ⟨rfl, ⟨nd, rfl⟩⟩
                      refine ⟨_, rfl, ?_⟩
                      refine hK.out _ _ ⟨(blk_cell BK206.out 0).trans rfl, (blk_cell BK206.out 1).trans rfl, (blk_cell BK204.out 0).trans rfl, (blk_cell BK204.out 1).trans rfl, (blk_cell BK204.out 2).trans rfl, (blk_cell BK204.out 3).trans rfl, (blk_cell BK204.out 4).trans rfl, (blk_cell BK204.out 5).trans rfl, (blk_cell BK204.out 6).trans rfl⟩ (fun hHeld => ?_)
                      clear hK K
                      refine norm_ (a' := ?_) ?_ ?_
                      rotate_left
                      ·show Act.put _ (some 61) _ = _
                       simp only [Act.put, List.setIfInBounds_toArray, List.set_cons_zero, List.set_cons_succ, i64_w, i32_w]
                       rfl
                      refine pure_ (i := 8) (N := some 62) (v := ?_) (a' := ?_) #[true, true, true, true, true, true, true, true, true, false, false, false] rfl rfl (any_of HT_.out (by kernel_rfl)) (fun _ _ _ h => h) (Or.inl ⟨by rfl, ?_⟩) ?_ ?_
                      rotate_left
                      ·intro w'
                       go_simp
                       with_reducible rfl
                      rotate_left
                      ·simp only [Act.put, List.setIfInBounds_toArray, List.set_cons_zero, List.set_cons_succ, i64_w, i32_w]
                       rfl
                      refine one_ (i := 9) (N := some 63) #[true, true, true, true, true, true, true, true, true, true, false, false] rfl rfl (one_of HT_.out (by kernel_rfl)) (by decide) (fun K hK => ?_)
                      refine value_ (w1 := ?_) (v := ?_) (by rfl) rfl ?_ ?_
                      rotate_left 2
                      ·go_simp
                       constructor
                       ·rfl
                       ·rfl
                      refine hK.out _ _ ⟨(blk_cell (blk_alloc BK206.out _) 0).trans rfl, (blk_cell (blk_alloc BK206.out _) 1).trans rfl, (blk_cell (blk_alloc BK204.out _) 0).trans rfl, (blk_cell (blk_alloc BK204.out _) 1).trans rfl, (blk_cell (blk_alloc BK204.out _) 2).trans rfl, (blk_cell (blk_alloc BK204.out _) 3).trans rfl, (blk_cell (blk_alloc BK204.out _) 4).trans rfl, (blk_cell (blk_alloc BK204.out _) 5).trans rfl, (blk_cell (blk_alloc BK204.out _) 6).trans rfl⟩ (fun hHeld => ?_)
                      clear hK K
                      refine norm_ (a' := ?_) ?_ ?_
                      rotate_left
                      ·show Act.put _ (some 63) _ = _
                       simp only [Act.put, List.setIfInBounds_toArray, List.set_cons_zero, List.set_cons_succ, i64_w, i32_w]
                       rfl
                      refine one_ (i := 10) (N := some 64) #[true, true, true, true, true, true, true, true, true, true, true, false] rfl rfl (one_of HT_.out (by kernel_rfl)) (by decide) (fun K hK => ?_)
                      refine Kd.R_append_step k55 (w0 := w) w.heap.size (by rfl) (.tmp 54) (.tmp 63) 56 55 (.agg #[(.int .i64 0), (.int .i64 0)]) 16 rfl Try.underlying56 info55 rfl (by decide) (by omega) u9 x9_3 (⟨(rd_T55 x6_2 x45_3).f0, t207⟩ : S55) [.int .i64 ((rd_T55 x6_2 x45_3).f0), .int .i64 t207] (fun k_ => some k_ ≠ (.slice (some ad205) x6_2.length co27 : Value).ownBlock ∧ k_ ≠ gb206) (fun _ => False) rfl rfl ?aP (fun _ hk => hk.elim) ?aF ?aO ?aB ?aS ?aL ?_
                      (case aP => exact k55_mkM _ _ _ (⟨(rd_T55 x6_2 x45_3).f0, t207⟩ : S55))
                      (case aB => exact (by with_reducible repeat (first | exact HB.out | apply below_alloc | apply pw_below_drewN | apply below_drew1 | refine below_set ?_ GE196.out | refine below_set ?_ GE199.out | refine below_set ?_ GE204.out | refine below_set ?_ GE206.out)))
                      (case aF => exact (fun k_ hk => ⟨Kd.fresh' (Kd.R_lt (by (with_reducible repeat (first | apply Kd.R_alloc | apply Kd.R_drewN | apply Kd.R_drew)); exact HO_43.out)) k_ hk, Kd.freshB (g := gb206) (by (with_reducible repeat (first | apply blk_drewN | apply blk_drew | apply blk_alloc)); exact BK206.out) k_ hk⟩))
                      (case aO => exact (by (with_reducible repeat (first | apply Kd.R_alloc | apply Kd.R_drewN | apply Kd.R_drew)); exact HO_9.out))
                      (case aS => exact (below_size (by with_reducible repeat (first | exact HB.out | apply below_alloc | apply pw_below_drewN | apply below_drew1 | refine below_set ?_ GE196.out | refine below_set ?_ GE199.out | refine below_set ?_ GE204.out | refine below_set ?_ GE206.out))))
                      (case aL => have := LMc33.out; omega)
                      intro v209 w47 ho hb hg hat
                      rw [← Ny208.out] at ho
                      have n0_ := Aside0.mk (Kd.R_over' (by (with_reducible repeat (first | apply Kd.R_alloc | apply Kd.R_drewN | apply Kd.R_drew)); exact HO_3.out) (Kd.R_typed (by (with_reducible repeat (first | apply Kd.R_alloc | apply Kd.R_drewN | apply Kd.R_drew)); exact HO_9.out)) (by decide) hg)
                      have n1_ := Aside0.mk (Kd.R_after (ok := (fun k_ => k_ ≠ gb206)) (by (with_reducible repeat (first | apply Kd.R_alloc | apply Kd.R_drewN | apply Kd.R_drew)); exact Kd.R_mono HO_43.out (fun _ hk => ⟨hk.2, hk.1⟩)) hg hat)
                      have n2_ := Aside0.mk (blk_grown (g := gb196) (by (with_reducible repeat (first | apply blk_drewN | apply blk_drew | apply blk_alloc)); exact BK196.out) hg (Kd.R_ne HO_9.out BK196.out (by decide)))
                      have n3_ := Aside0.mk (blk_grown (g := gb199) (by (with_reducible repeat (first | apply blk_drewN | apply blk_drew | apply blk_alloc)); exact BK199.out) hg (Kd.R_ne HO_9.out BK199.out (by decide)))
                      have n4_ := Aside0.mk (blk_grown (g := gb204) (by (with_reducible repeat (first | apply blk_drewN | apply blk_drew | apply blk_alloc)); exact BK204.out) hg (Kd.R_ne HO_9.out BK204.out (by decide)))
                      have n5_ := Aside0.mk (blk_grown (g := gb206) (by (with_reducible repeat (first | apply blk_drewN | apply blk_drew | apply blk_alloc)); exact BK206.out) hg (Kd.R_away HO_9.out (fun _ hk => hk.2)))
                      have n6_ := Aside0.mk (hb)
                      have n7_ := Aside0.mk (ho)
                      clear HO_3
                      clear HO_43
                      clear BK196
                      clear BK199
                      clear BK204
                      clear BK206
                      clear HB
                      clear HO_9
                      have HO_3 := n0_
                      have HO_43 := n1_
                      have BK196 := n2_
                      have BK199 := n3_
                      have BK204 := n4_
                      have BK206 := n5_
                      have HB := n6_
                      have HO210 := n7_
                      clear n0_ n1_ n2_ n3_ n4_ n5_ n6_ n7_
                      clear ho hb hg hat
                      refine hK.out _ _ ⟨(blk_cell BK206.out 0).trans rfl, (blk_cell BK206.out 1).trans rfl, (blk_cell BK204.out 0).trans rfl, (blk_cell BK204.out 1).trans rfl, (blk_cell BK204.out 2).trans rfl, (blk_cell BK204.out 3).trans rfl, (blk_cell BK204.out 4).trans rfl, (blk_cell BK204.out 5).trans rfl, (blk_cell BK204.out 6).trans rfl⟩ (fun hHeld => ?_)
                      clear hK K
                      refine norm_ (a' := ?_) ?_ ?_
                      rotate_left
                      ·show Act.put _ (some 64) _ = _
                       simp only [Act.put, List.setIfInBounds_toArray, List.set_cons_zero, List.set_cons_succ, i64_w, i32_w]
                       rfl
                      refine pure_ (i := 11) (N := some 9) (v := ?_) (a' := ?_) #[true, true, true, true, true, true, true, true, true, true, true, true] rfl rfl (any_of HT_.out (by kernel_rfl)) (fun _ _ _ h => h) (Or.inl ⟨by rfl, ?_⟩) ?_ ?_
                      rotate_left
                      ·intro w'
                       go_simp
                       with_reducible rfl
                      rotate_left
                      ·simp only [Act.put, List.setIfInBounds_toArray, List.set_cons_zero, List.set_cons_succ, i64_w, i32_w]
                       rfl
                      refine done_ (done_of HT_.out (by kernel_rfl)) ?_
                      have hcz48_0 : w47.cell? ⟨gb204, 0, none⟩ = some (.int .i64 ((rd_T34 l0_1 x34_2).f0)) := (blk_cell BK204.out 0).trans rfl
                      have hcz48_1 : w47.cell? ⟨gb204, 1, none⟩ = some (.int .i64 ((rd_T34 l0_1 x34_2).f1)) := (blk_cell BK204.out 1).trans rfl
                      have hcz48_2 : w47.cell? ⟨gb204, 2, none⟩ = some (.string ((rd_T34 l0_1 x34_2).f2)) := (blk_cell BK204.out 2).trans rfl
                      have hcz48_3 : w47.cell? ⟨gb204, 3, none⟩ = some (.string ((rd_T34 l0_1 x34_2).f3)) := (blk_cell BK204.out 3).trans rfl
                      have hcz48_4 : w47.cell? ⟨gb204, 4, none⟩ = some (.int .i64 ((rd_T34 l0_1 x34_2).f4)) := (blk_cell BK204.out 4).trans rfl
                      have hcz48_5 : w47.cell? ⟨gb204, 5, none⟩ = some (.int .i64 ((rd_T34 l0_1 x34_2).f5)) := (blk_cell BK204.out 5).trans rfl
                      have hcz48_6 : w47.cell? ⟨gb204, 6, none⟩ = some (.bool ((rd_T34 l0_1 x34_2).f6)) := (blk_cell BK204.out 6).trans rfl
                      have hfz48_0 := blk_frozen BK204.out 0
                      have hfz48_1 := blk_frozen BK204.out 1
                      have hfz48_2 := blk_frozen BK204.out 2
                      have hfz48_3 := blk_frozen BK204.out 3
                      have hfz48_4 := blk_frozen BK204.out 4
                      have hfz48_5 := blk_frozen BK204.out 5
                      have hfz48_6 := blk_frozen BK204.out 6
                      have hcz49_0 : w47.cell? ⟨gb206, 0, none⟩ = some (.int .i64 ((rd_T55 x6_2 x45_3).f0)) := (blk_cell BK206.out 0).trans rfl
                      have hcz49_1 : w47.cell? ⟨gb206, 1, none⟩ = some (.int .i64 ((rd_T55 x6_2 x45_3).f1)) := (blk_cell BK206.out 1).trans rfl
                      have hfz49_0 := blk_frozen BK206.out 0
                      have hfz49_1 := blk_frozen BK206.out 1
                      try go_wp2
                      have n0_ := Aside0.mk (Kd.R_drew HO_3.out)
                      have n1_ := Aside0.mk (Kd.R_drew HO_43.out)
                      have n2_ := Aside0.mk (Kd.R_drew HO210.out)
                      have n3_ := Aside0.mk (blk_drew BK196.out)
                      have n4_ := Aside0.mk (blk_drew BK199.out)
                      have n5_ := Aside0.mk (blk_drew BK204.out)
                      have n6_ := Aside0.mk (blk_drew BK206.out)
                      have n7_ := Aside0.mk (below_drew1 HB.out)
                      clear HO_3
                      clear HO_43
                      clear HO210
                      clear BK196
                      clear BK199
                      clear BK204
                      clear BK206
                      clear HB
                      have HO_3 := n0_
                      have HO_43 := n1_
                      have HO210 := n2_
                      have BK196 := n3_
                      have BK199 := n4_
                      have BK204 := n5_
                      have BK206 := n6_
                      have HB := n7_
                      clear n0_ n1_ n2_ n3_ n4_ n5_ n6_ n7_
                      refine start_ (n := 12) (S := fun w' => w'.cell? ⟨gb206, 0, none⟩ = some (.int .i64 ((rd_T55 x6_2 x45_3).f0)) ∧ w'.cell? ⟨gb206, 1, none⟩ = some (.int .i64 ((rd_T55 x6_2 x45_3).f1)) ∧ w'.cell? ⟨gb204, 0, none⟩ = some (.int .i64 ((rd_T34 l0_1 x34_2).f0)) ∧ w'.cell? ⟨gb204, 1, none⟩ = some (.int .i64 ((rd_T34 l0_1 x34_2).f1)) ∧ w'.cell? ⟨gb204, 2, none⟩ = some (.string ((rd_T34 l0_1 x34_2).f2)) ∧ w'.cell? ⟨gb204, 3, none⟩ = some (.string ((rd_T34 l0_1 x34_2).f3)) ∧ w'.cell? ⟨gb204, 4, none⟩ = some (.int .i64 ((rd_T34 l0_1 x34_2).f4)) ∧ w'.cell? ⟨gb204, 5, none⟩ = some (.int .i64 ((rd_T34 l0_1 x34_2).f5)) ∧ w'.cell? ⟨gb204, 6, none⟩ = some (.bool ((rd_T34 l0_1 x34_2).f6))) (ds := []) #[false, false, false, false, false, false, false, false, false, false, false, false] (by kernel_rfl) rfl rfl ⟨(blk_cell BK206.out 0).trans rfl, (blk_cell BK206.out 1).trans rfl, (blk_cell BK204.out 0).trans rfl, (blk_cell BK204.out 1).trans rfl, (blk_cell BK204.out 2).trans rfl, (blk_cell BK204.out 3).trans rfl, (blk_cell BK204.out 4).trans rfl, (blk_cell BK204.out 5).trans rfl, (blk_cell BK204.out 6).trans rfl⟩ (fun hHeld => ?_); refine with_tabW spec_SelfTimes.tab19 spec_SelfTimes.bits19 (fun HT_ HW_ => ?_)
                      generalize w47.drew = w50 at HO_3 HO_43 HO210 BK196 BK199 BK204 BK206 HB hHeld ⊢
                      refine pure_ (i := 0) (N := some 70) (v := ?_) (a' := ?_) #[true, false, false, false, false, false, false, false, false, false, false, false] rfl rfl (any_of HT_.out (by kernel_rfl)) (fun _ _ _ h => h) (Or.inl ⟨by rfl, ?_⟩) ?_ ?_
                      rotate_left
                      ·intro w'
                       go_simp
                       with_reducible rfl
                      rotate_left
                      ·simp only [Act.put, List.setIfInBounds_toArray, List.set_cons_zero, List.set_cons_succ, i64_w, i32_w]
                       rfl
                      refine pure_ (i := 1) (N := some 71) (v := ?_) (a' := ?_) #[true, true, false, false, false, false, false, false, false, false, false, false] rfl rfl (any_of HT_.out (by kernel_rfl)) (fun _ _ _ h => h) (Or.inl ⟨by rfl, ?_⟩) ?_ ?_
                      rotate_left
                      ·intro w'
                       go_simp
                       with_reducible rfl
                      rotate_left
                      ·simp only [Act.put, List.setIfInBounds_toArray, List.set_cons_zero, List.set_cons_succ, i64_w, i32_w]
                       rfl
                      refine pure_ (i := 3) (N := some 73) (v := ?_) (a' := ?_) #[true, true, false, true, false, false, false, false, false, false, false, false] rfl rfl (any_of HT_.out (by kernel_rfl)) (fun _ _ _ h => h) (Or.inl ⟨by rfl, ?_⟩) ?_ ?_
                      rotate_left
                      ·intro w'
                       go_simp
                       with_reducible rfl
                      rotate_left
                      ·simp only [Act.put, List.setIfInBounds_toArray, List.set_cons_zero, List.set_cons_succ, i64_w, i32_w]
                       rfl
                      refine pure_ (i := 6) (N := some 76) (v := ?_) (a' := ?_) #[true, true, false, true, false, false, true, false, false, false, false, false] rfl rfl (any_of HT_.out (by kernel_rfl)) (fun _ _ _ h => h) (Or.inl ⟨by rfl, ?_⟩) ?_ ?_
                      rotate_left
                      ·intro w'
                       go_simp
                       with_reducible rfl
                      rotate_left
                      ·simp only [Act.put, List.setIfInBounds_toArray, List.set_cons_zero, List.set_cons_succ, i64_w, i32_w]
                       rfl
                      refine take_ (i := 2) (N := some 72) (v := ?_) (a' := ?_) #[true, true, true, true, false, false, true, false, false, false, false, false] rfl rfl (take_ofW HT_.out HW_.out (by kernel_rfl)) (fun _ _ _ h => h) (Or.inl ⟨by rfl, ?_⟩) hHeld ?_ ?_
                      rotate_left
                      ·rintro w' ⟨s0, s1, s2, s3, s4, s5, s6, s7, s8⟩
                       go_simp
                       with_reducible rfl
                      rotate_left
                      ·simp only [Act.put, List.setIfInBounds_toArray, List.set_cons_zero, List.set_cons_succ, i64_w, i32_w]
                       rfl
                      refine take_ (i := 4) (N := some 74) (v := ?_) (a' := ?_) #[true, true, true, true, true, false, true, false, false, false, false, false] rfl rfl (take_ofW HT_.out HW_.out (by kernel_rfl)) (fun _ _ _ h => h) (Or.inl ⟨by rfl, ?_⟩) hHeld ?_ ?_
                      rotate_left
                      ·rintro w' ⟨s0, s1, s2, s3, s4, s5, s6, s7, s8⟩
                       go_simp
                       with_reducible rfl
                      rotate_left
                      ·simp only [Act.put, List.setIfInBounds_toArray, List.set_cons_zero, List.set_cons_succ, i64_w, i32_w]
                       rfl
                      refine take_ (i := 7) (N := some 77) (v := ?_) (a' := ?_) #[true, true, true, true, true, false, true, true, false, false, false, false] rfl rfl (take_ofW HT_.out HW_.out (by kernel_rfl)) (fun _ _ _ h => h) (Or.inl ⟨by rfl, ?_⟩) hHeld ?_ ?_
                      rotate_left
                      ·rintro w' ⟨s0, s1, s2, s3, s4, s5, s6, s7, s8⟩
                       go_simp
                       with_reducible rfl
                      rotate_left
                      ·simp only [Act.put, List.setIfInBounds_toArray, List.set_cons_zero, List.set_cons_succ, i64_w, i32_w]
                       rfl
                      refine one_ (i := 5) (N := some 75) #[true, true, true, true, true, true, true, true, false, false, false, false] rfl rfl (one_of HT_.out (by kernel_rfl)) (by decide) (fun K hK => ?_)
                      refine goes_ Try.func25 (by kernel_rfl) rfl #[.int .i64 ((rd_T55 x6_2 x45_3).f0), .int .i64 ((rd_T34 l0_1 x34_2).f5)] (by rfl) rfl rfl (by (try simp only [List.map_toArray, List.map_cons, List.map_nil]); first | done | rfl) ?_
                      with_reducible refine (spec_l23More.calls ((rd_T55 x6_2 x45_3).f0) ((rd_T34 l0_1 x34_2).f5) t211 _ A35.out).mono ?_
                      rintro e w' ⟨rfl, ⟨nd, rfl⟩⟩
                      refine ⟨_, rfl, ?_⟩
                      refine hK.out _ _ ⟨(blk_cell BK206.out 0).trans rfl, (blk_cell BK206.out 1).trans rfl, (blk_cell BK204.out 0).trans rfl, (blk_cell BK204.out 1).trans rfl, (blk_cell BK204.out 2).trans rfl, (blk_cell BK204.out 3).trans rfl, (blk_cell BK204.out 4).trans rfl, (blk_cell BK204.out 5).trans rfl, (blk_cell BK204.out 6).trans rfl⟩ (fun hHeld => ?_)
                      clear hK K
                      refine norm_ (a' := ?_) ?_ ?_
                      rotate_left
                      ·show Act.put _ (some 75) _ = _
                       simp only [Act.put, List.setIfInBounds_toArray, List.set_cons_zero, List.set_cons_succ, i64_w, i32_w]
                       rfl
                      refine pure_ (i := 8) (N := some 78) (v := ?_) (a' := ?_) #[true, true, true, true, true, true, true, true, true, false, false, false] rfl rfl (any_of HT_.out (by kernel_rfl)) (fun _ _ _ h => h) (Or.inl ⟨by rfl, ?_⟩) ?_ ?_
                      rotate_left
                      ·intro w'
                       go_simp
                       with_reducible rfl
                      rotate_left
                      ·simp only [Act.put, List.setIfInBounds_toArray, List.set_cons_zero, List.set_cons_succ, i64_w, i32_w]
                       rfl
                      refine one_ (i := 9) (N := some 79) #[true, true, true, true, true, true, true, true, true, true, false, false] rfl rfl (one_of HT_.out (by kernel_rfl)) (by decide) (fun K hK => ?_)
                      refine value_ (w1 := ?_) (v := ?_) (by rfl) rfl ?_ ?_
                      rotate_left 2
                      ·go_simp
                       constructor
                       ·rfl
                       ·rfl
                      refine hK.out _ _ ⟨(blk_cell (blk_alloc BK206.out _) 0).trans rfl, (blk_cell (blk_alloc BK206.out _) 1).trans rfl, (blk_cell (blk_alloc BK204.out _) 0).trans rfl, (blk_cell (blk_alloc BK204.out _) 1).trans rfl, (blk_cell (blk_alloc BK204.out _) 2).trans rfl, (blk_cell (blk_alloc BK204.out _) 3).trans rfl, (blk_cell (blk_alloc BK204.out _) 4).trans rfl, (blk_cell (blk_alloc BK204.out _) 5).trans rfl, (blk_cell (blk_alloc BK204.out _) 6).trans rfl⟩ (fun hHeld => ?_)
                      clear hK K
                      refine norm_ (a' := ?_) ?_ ?_
                      rotate_left
                      ·show Act.put _ (some 79) _ = _
                       simp only [Act.put, List.setIfInBounds_toArray, List.set_cons_zero, List.set_cons_succ, i64_w, i32_w]
                       rfl
                      refine one_ (i := 10) (N := some 80) #[true, true, true, true, true, true, true, true, true, true, true, false] rfl rfl (one_of HT_.out (by kernel_rfl)) (by decide) (fun K hK => ?_)
                      refine Kd.R_append_step k55 (w0 := w) w.heap.size (by rfl) (.tmp 70) (.tmp 79) 56 55 (.agg #[(.int .i64 0), (.int .i64 0)]) 16 rfl Try.underlying56 info55 rfl (by decide) (by omega) v209 y208 (⟨t211, (rd_T55 x6_2 x45_3).f1⟩ : S55) [.int .i64 t211, .int .i64 ((rd_T55 x6_2 x45_3).f1)] (fun k_ => some k_ ≠ (.slice (some ad205) x6_2.length co27 : Value).ownBlock ∧ k_ ≠ gb206) (fun _ => False) rfl rfl ?aP (fun _ hk => hk.elim) ?aF ?aO ?aB ?aS ?aL ?_
                      (case aP => exact k55_mkM _ _ _ (⟨t211, (rd_T55 x6_2 x45_3).f1⟩ : S55))
                      (case aB => exact (by with_reducible repeat (first | exact HB.out | apply below_alloc | apply pw_below_drewN | apply below_drew1 | refine below_set ?_ GE196.out | refine below_set ?_ GE199.out | refine below_set ?_ GE204.out | refine below_set ?_ GE206.out)))
                      (case aF => exact (fun k_ hk => ⟨Kd.fresh' (Kd.R_lt (by (with_reducible repeat (first | apply Kd.R_alloc | apply Kd.R_drewN | apply Kd.R_drew)); exact HO_43.out)) k_ hk, Kd.freshB (g := gb206) (by (with_reducible repeat (first | apply blk_drewN | apply blk_drew | apply blk_alloc)); exact BK206.out) k_ hk⟩))
                      (case aO => exact (by (with_reducible repeat (first | apply Kd.R_alloc | apply Kd.R_drewN | apply Kd.R_drew)); exact HO210.out))
                      (case aS => exact (below_size (by with_reducible repeat (first | exact HB.out | apply below_alloc | apply pw_below_drewN | apply below_drew1 | refine below_set ?_ GE196.out | refine below_set ?_ GE199.out | refine below_set ?_ GE204.out | refine below_set ?_ GE206.out))))
                      (case aL => have := LMc36.out; omega)
                      intro v213 w51 ho hb hg hat
                      rw [← Ny212.out] at ho
                      have n0_ := Aside0.mk (Kd.R_over' (by (with_reducible repeat (first | apply Kd.R_alloc | apply Kd.R_drewN | apply Kd.R_drew)); exact HO_3.out) (Kd.R_typed (by (with_reducible repeat (first | apply Kd.R_alloc | apply Kd.R_drewN | apply Kd.R_drew)); exact HO210.out)) (by decide) hg)
                      have n1_ := Aside0.mk (Kd.R_after (ok := (fun k_ => k_ ≠ gb206)) (by (with_reducible repeat (first | apply Kd.R_alloc | apply Kd.R_drewN | apply Kd.R_drew)); exact HO_43.out) hg hat)
                      have n2_ := Aside0.mk (blk_grown (g := gb196) (by (with_reducible repeat (first | apply blk_drewN | apply blk_drew | apply blk_alloc)); exact BK196.out) hg (Kd.R_ne HO210.out BK196.out (by decide)))
                      have n3_ := Aside0.mk (blk_grown (g := gb199) (by (with_reducible repeat (first | apply blk_drewN | apply blk_drew | apply blk_alloc)); exact BK199.out) hg (Kd.R_ne HO210.out BK199.out (by decide)))
                      have n4_ := Aside0.mk (blk_grown (g := gb204) (by (with_reducible repeat (first | apply blk_drewN | apply blk_drew | apply blk_alloc)); exact BK204.out) hg (Kd.R_ne HO210.out BK204.out (by decide)))
                      have n5_ := Aside0.mk (blk_grown (g := gb206) (by (with_reducible repeat (first | apply blk_drewN | apply blk_drew | apply blk_alloc)); exact BK206.out) hg (Kd.R_away HO210.out (fun _ hk => hk.2)))
                      have n6_ := Aside0.mk (hb)
                      have n7_ := Aside0.mk (ho)
                      clear HO_3
                      clear HO_43
                      clear BK196
                      clear BK199
                      clear BK204
                      clear BK206
                      clear HB
                      clear HO210
                      have HO_3 := n0_
                      have HO_43 := n1_
                      have BK196 := n2_
                      have BK199 := n3_
                      have BK204 := n4_
                      have BK206 := n5_
                      have HB := n6_
                      have HO214 := n7_
                      clear n0_ n1_ n2_ n3_ n4_ n5_ n6_ n7_
                      clear ho hb hg hat
                      refine hK.out _ _ ⟨(blk_cell BK206.out 0).trans rfl, (blk_cell BK206.out 1).trans rfl, (blk_cell BK204.out 0).trans rfl, (blk_cell BK204.out 1).trans rfl, (blk_cell BK204.out 2).trans rfl, (blk_cell BK204.out 3).trans rfl, (blk_cell BK204.out 4).trans rfl, (blk_cell BK204.out 5).trans rfl, (blk_cell BK204.out 6).trans rfl⟩ (fun hHeld => ?_)
                      clear hK K
                      refine norm_ (a' := ?_) ?_ ?_
                      rotate_left
                      ·show Act.put _ (some 80) _ = _
                       simp only [Act.put, List.setIfInBounds_toArray, List.set_cons_zero, List.set_cons_succ, i64_w, i32_w]
                       rfl
                      refine pure_ (i := 11) (N := some 9) (v := ?_) (a' := ?_) #[true, true, true, true, true, true, true, true, true, true, true, true] rfl rfl (any_of HT_.out (by kernel_rfl)) (fun _ _ _ h => h) (Or.inl ⟨by rfl, ?_⟩) ?_ ?_
                      rotate_left
                      ·intro w'
                       go_simp
                       with_reducible rfl
                      rotate_left
                      ·simp only [Act.put, List.setIfInBounds_toArray, List.set_cons_zero, List.set_cons_succ, i64_w, i32_w]
                       rfl
                      refine done_ (done_of HT_.out (by kernel_rfl)) ?_
                      try go_wp2
                      go_roundg k3
                      case measure => have := HK1.out; have := HK2.out; have := HK3.out; omega
                      case rel => exact ⟨(y212), (wrap64 (x45_3 + 1)), (by first | rfl | (simp; done) | (simp [*]; done)), H', ⟨by have := HK1.out; have := HK2.out; have := HK3.out; omega⟩, ⟨by (with_reducible repeat (first | apply Kd.R_alloc | apply Kd.R_drewN | apply Kd.R_drew)); exact HO_3.out⟩, ⟨by (with_reducible repeat (first | apply Kd.R_alloc | apply Kd.R_drewN | apply Kd.R_drew)); exact Kd.R_mono HO214.out (fun _ hk => hk.1)⟩, ⟨by (with_reducible repeat (first | apply Kd.R_alloc | apply Kd.R_drewN | apply Kd.R_drew)); exact Kd.R_mono HO_43.out (fun _ hk => hk.2)⟩, ⟨by (with_reducible repeat (first | apply blk_drewN | apply blk_drew | apply blk_alloc)); exact BK196.out⟩, ⟨by (with_reducible repeat (first | apply blk_drewN | apply blk_drew | apply blk_alloc)); exact BK199.out⟩, ⟨by (with_reducible repeat (first | apply blk_drewN | apply blk_drew | apply blk_alloc)); exact BK204.out⟩, ⟨by with_reducible repeat (first | exact HB.out | apply below_alloc | apply pw_below_drewN | apply below_drew1 | refine below_set ?_ GE196.out | refine below_set ?_ GE199.out | refine below_set ?_ GE204.out | refine below_set ?_ GE206.out)⟩⟩
                     ·rw [if_neg c36] at H
                      exact absurd H (by simp)
                    ·rw [if_neg c34] at H
                     have c34b0 : decide (((rd_T34 l0_1 x34_2).f5) < ((rd_T55 x6_2 x45_3).f1)) = false := decide_eq_false c34
                     clear c34
                     have H' := Aside0.mk H
                     clear H
                     have p205 : 0 ≤ (x45_3 : Int) := of_decide_eq_true (by assumption)
                     have q205 : x45_3 < (x6_2.length : Int) := of_decide_eq_true (by assumption)
                     obtain ⟨ad205, e205, hx205_0, hx205_1⟩ := at_T55 (Kd.R_reads' HO_43.out).2.2 x45_3 p205 q205
                     cases e205
                     replace p205 := eq_true p205
                     replace q205 := eq_true q205
                     try go_wp2_with (first | ((with_reducible refine gate_dst (N := 11) rfl ?_); refine box_event ?hg (N := 11) ?hd (cs := #[.int .i64 0, .int .i64 0]) (t := 55) ?hr ?_; (case hd => rfl); (case hg => rfl); (case hr => first | (go_simp; done) | (go_simp; rfl)); intro gb206 hg w52 hbox hb; have n0_ := Aside0.mk (Kd.R_below (by (with_reducible repeat (first | apply Kd.R_alloc | apply Kd.R_drewN | apply Kd.R_drew)); exact HO_3.out) hb); have n1_ := Aside0.mk (Kd.R_below (Kd.R_elderB (by (with_reducible repeat (first | apply Kd.R_alloc | apply Kd.R_drewN | apply Kd.R_drew)); exact HO_9.out) gb206 (Nat.le_of_eq hg.symm)) hb); have n2_ := Aside0.mk (Kd.R_below (Kd.R_elderB (by (with_reducible repeat (first | apply Kd.R_alloc | apply Kd.R_drewN | apply Kd.R_drew)); exact HO_43.out) gb206 (Nat.le_of_eq hg.symm)) hb); have n3_ := Aside0.mk (blk_below (g := gb196) (by (with_reducible repeat (first | apply blk_drewN | apply blk_drew | apply blk_alloc)); exact BK196.out) hb); have n4_ := Aside0.mk (blk_below (g := gb199) (by (with_reducible repeat (first | apply blk_drewN | apply blk_drew | apply blk_alloc)); exact BK199.out) hb); have n5_ := Aside0.mk (blk_below (g := gb204) (by (with_reducible repeat (first | apply blk_drewN | apply blk_drew | apply blk_alloc)); exact BK204.out) hb); have n6_ := Aside0.mk (below_step (by with_reducible repeat (first | exact HB.out | apply below_alloc | apply pw_below_drewN | apply below_drew1 | refine below_set ?_ GE196.out | refine below_set ?_ GE199.out | refine below_set ?_ GE204.out)) hb); have n7_ := Aside0.mk (hbox); have n8_ := Aside0.mk ((by rw [hg]; exact (below_size (by with_reducible repeat (first | exact HB.out | apply below_alloc | apply pw_below_drewN | apply below_drew1 | refine below_set ?_ GE196.out | refine below_set ?_ GE199.out | refine below_set ?_ GE204.out))) : w.heap.size ≤ gb206)); have n9_ := n8_; have n10_ := Aside0.mk ((by rw [hg]; exact Nat.ne_of_lt (blk_lt (g := gb196) (by (with_reducible repeat (first | apply blk_drewN | apply blk_drew | apply blk_alloc)); exact BK196.out)) : gb196 ≠ gb206)); have n11_ := Aside0.mk ((by rw [hg]; exact Nat.ne_of_gt (blk_lt (g := gb196) (by (with_reducible repeat (first | apply blk_drewN | apply blk_drew | apply blk_alloc)); exact BK196.out)) : gb206 ≠ gb196)); have n12_ := Aside0.mk ((by rw [hg]; exact Nat.ne_of_lt (blk_lt (g := gb199) (by (with_reducible repeat (first | apply blk_drewN | apply blk_drew | apply blk_alloc)); exact BK199.out)) : gb199 ≠ gb206)); have n13_ := Aside0.mk ((by rw [hg]; exact Nat.ne_of_gt (blk_lt (g := gb199) (by (with_reducible repeat (first | apply blk_drewN | apply blk_drew | apply blk_alloc)); exact BK199.out)) : gb206 ≠ gb199)); have n14_ := Aside0.mk ((by rw [hg]; exact Nat.ne_of_lt (blk_lt (g := gb204) (by (with_reducible repeat (first | apply blk_drewN | apply blk_drew | apply blk_alloc)); exact BK204.out)) : gb204 ≠ gb206)); have n15_ := Aside0.mk ((by rw [hg]; exact Nat.ne_of_gt (blk_lt (g := gb204) (by (with_reducible repeat (first | apply blk_drewN | apply blk_drew | apply blk_alloc)); exact BK204.out)) : gb206 ≠ gb204)); clear HO_3; clear HO_9; clear HO_43; clear BK196; clear BK199; clear BK204; clear HB; have HO_3 := n0_; have HO_9 := n1_; have HO_43 := n2_; have BK196 := n3_; have BK199 := n4_; have BK204 := n5_; have HB := n6_; have BK206 := n7_; have GW206 := n8_; have GE206 := n9_; have NB196_206 := n10_; have NB206_196 := n11_; have NB199_206 := n12_; have NB206_199 := n13_; have NB204_206 := n14_; have NB206_204 := n15_; clear n0_ n1_ n2_ n3_ n4_ n5_ n6_ n7_ n8_ n9_ n10_ n11_ n12_ n13_ n14_ n15_; clear hb hbox hg; have hnb53 := NB206_196.out; have hnc53 := NB196_206.out; have hnb54 := NB206_199.out; have hnc54 := NB199_206.out; have hnb55 := NB206_204.out; have hnc55 := NB204_206.out; have hcz56_0 : w52.cell? ⟨gb206, 0, none⟩ = some (.int .i64 0) := (blk_cell BK206.out 0).trans rfl; have hcz56_1 : w52.cell? ⟨gb206, 1, none⟩ = some (.int .i64 0) := (blk_cell BK206.out 1).trans rfl; have hfz56_0 := blk_frozen BK206.out 0; have hfz56_1 := blk_frozen BK206.out 1; have hnb57 := NB204_196.out; have hnc57 := NB196_204.out; have hnb58 := NB204_199.out; have hnc58 := NB199_204.out; have hcz59_0 : w52.cell? ⟨gb204, 0, none⟩ = some (.int .i64 ((rd_T34 l0_1 x34_2).f0)) := (blk_cell BK204.out 0).trans rfl; have hcz59_1 : w52.cell? ⟨gb204, 1, none⟩ = some (.int .i64 ((rd_T34 l0_1 x34_2).f1)) := (blk_cell BK204.out 1).trans rfl; have hcz59_2 : w52.cell? ⟨gb204, 2, none⟩ = some (.string ((rd_T34 l0_1 x34_2).f2)) := (blk_cell BK204.out 2).trans rfl; have hcz59_3 : w52.cell? ⟨gb204, 3, none⟩ = some (.string ((rd_T34 l0_1 x34_2).f3)) := (blk_cell BK204.out 3).trans rfl; have hcz59_4 : w52.cell? ⟨gb204, 4, none⟩ = some (.int .i64 ((rd_T34 l0_1 x34_2).f4)) := (blk_cell BK204.out 4).trans rfl; have hcz59_5 : w52.cell? ⟨gb204, 5, none⟩ = some (.int .i64 ((rd_T34 l0_1 x34_2).f5)) := (blk_cell BK204.out 5).trans rfl; have hcz59_6 : w52.cell? ⟨gb204, 6, none⟩ = some (.bool ((rd_T34 l0_1 x34_2).f6)) := (blk_cell BK204.out 6).trans rfl; have hfz59_0 := blk_frozen BK204.out 0; have hfz59_1 := blk_frozen BK204.out 1; have hfz59_2 := blk_frozen BK204.out 2; have hfz59_3 := blk_frozen BK204.out 3; have hfz59_4 := blk_frozen BK204.out 4; have hfz59_5 := blk_frozen BK204.out 5; have hfz59_6 := blk_frozen BK204.out 6))
                     have n0_ : Aside0 (Kd.R (Kd.int .i64) 3 ((w52.setCell ⟨gb206, 0, none⟩ (.int .i64 ((rd_T55 x6_2 x45_3).f0))).setCell ⟨gb206, 1, none⟩ (.int .i64 ((rd_T55 x6_2 x45_3).f1))) w.heap.size (fun _ => True) u3 x3_1) := ⟨by (with_reducible repeat (first | apply Kd.R_alloc | apply Kd.R_drewN | apply Kd.R_drew)); exact Kd.R_mono (Kd.R_far (p := ⟨gb206, 1, none⟩) (Kd.R_far (p := ⟨gb206, 0, none⟩) (Kd.R_types HO_3.out BK206.out (by decide)) (fun _ hk => hk.2) (.int .i64 ((rd_T55 x6_2 x45_3).f0))) (fun _ hk => hk.2) (.int .i64 ((rd_T55 x6_2 x45_3).f1))) (fun _ hk => trivial)⟩
                     have n1_ : Aside0 (Kd.R k55 55 ((w52.setCell ⟨gb206, 0, none⟩ (.int .i64 ((rd_T55 x6_2 x45_3).f0))).setCell ⟨gb206, 1, none⟩ (.int .i64 ((rd_T55 x6_2 x45_3).f1))) w.heap.size (fun k_ => some k_ ≠ (.slice (some ad205) x6_2.length co27 : Value).ownBlock ∧ k_ ≠ gb206) u9 x9_3) := ⟨by (with_reducible repeat (first | apply Kd.R_alloc | apply Kd.R_drewN | apply Kd.R_drew)); exact Kd.R_mono (Kd.R_far (p := ⟨gb206, 1, none⟩) (Kd.R_far (p := ⟨gb206, 0, none⟩) (Kd.R_mono HO_9.out (fun k_ hk => (⟨hk, hk.2⟩ : _ ∧ k_ ≠ gb206))) (fun _ hk => hk.2) (.int .i64 ((rd_T55 x6_2 x45_3).f0))) (fun _ hk => hk.2) (.int .i64 ((rd_T55 x6_2 x45_3).f1))) (fun _ hk => ⟨hk.1.1, hk.1.2⟩)⟩
                     have n2_ : Aside0 (Kd.R k55 55 ((w52.setCell ⟨gb206, 0, none⟩ (.int .i64 ((rd_T55 x6_2 x45_3).f0))).setCell ⟨gb206, 1, none⟩ (.int .i64 ((rd_T55 x6_2 x45_3).f1))) w.heap.size (fun k_ => some k_ ≠ (u9 : Value).ownBlock ∧ k_ ≠ gb206) (.slice (some ad205) x6_2.length co27) x6_2) := ⟨by (with_reducible repeat (first | apply Kd.R_alloc | apply Kd.R_drewN | apply Kd.R_drew)); exact Kd.R_mono (Kd.R_far (p := ⟨gb206, 1, none⟩) (Kd.R_far (p := ⟨gb206, 0, none⟩) (Kd.R_mono HO_43.out (fun k_ hk => (⟨hk, hk.2⟩ : _ ∧ k_ ≠ gb206))) (fun _ hk => hk.2) (.int .i64 ((rd_T55 x6_2 x45_3).f0))) (fun _ hk => hk.2) (.int .i64 ((rd_T55 x6_2 x45_3).f1))) (fun _ hk => ⟨hk.1.1, hk.1.2⟩)⟩
                     have n3_ : Aside0 (((w52.setCell ⟨gb206, 0, none⟩ (.int .i64 ((rd_T55 x6_2 x45_3).f0))).setCell ⟨gb206, 1, none⟩ (.int .i64 ((rd_T55 x6_2 x45_3).f1))).heap[gb196]? = some (.cells #[.int .i64 a0_0, .slice (some ad198) l0_1.length c0_1] 25 (0, 0))) := ⟨by (with_reducible repeat (first | apply blk_drewN | apply blk_drew | apply blk_alloc)); refine blk_far ?_ NB196_206.out _; (with_reducible repeat (first | apply blk_drewN | apply blk_drew | apply blk_alloc)); refine blk_far ?_ NB196_206.out _; (with_reducible repeat (first | apply blk_drewN | apply blk_drew | apply blk_alloc)); exact BK196.out⟩
                     have n4_ : Aside0 (((w52.setCell ⟨gb206, 0, none⟩ (.int .i64 ((rd_T55 x6_2 x45_3).f0))).setCell ⟨gb206, 1, none⟩ (.int .i64 ((rd_T55 x6_2 x45_3).f1))).heap[gb199]? = some (.cells #[.int .i64 ((rd_T34 l0_1 x21_1).f0), .int .i64 ((rd_T34 l0_1 x21_1).f1), .string ((rd_T34 l0_1 x21_1).f2), .string ((rd_T34 l0_1 x21_1).f3), .int .i64 ((rd_T34 l0_1 x21_1).f4), .int .i64 ((rd_T34 l0_1 x21_1).f5), .bool ((rd_T34 l0_1 x21_1).f6)] 34 (0, 0))) := ⟨by (with_reducible repeat (first | apply blk_drewN | apply blk_drew | apply blk_alloc)); refine blk_far ?_ NB199_206.out _; (with_reducible repeat (first | apply blk_drewN | apply blk_drew | apply blk_alloc)); refine blk_far ?_ NB199_206.out _; (with_reducible repeat (first | apply blk_drewN | apply blk_drew | apply blk_alloc)); exact BK199.out⟩
                     have n5_ : Aside0 (((w52.setCell ⟨gb206, 0, none⟩ (.int .i64 ((rd_T55 x6_2 x45_3).f0))).setCell ⟨gb206, 1, none⟩ (.int .i64 ((rd_T55 x6_2 x45_3).f1))).heap[gb204]? = some (.cells #[.int .i64 ((rd_T34 l0_1 x34_2).f0), .int .i64 ((rd_T34 l0_1 x34_2).f1), .string ((rd_T34 l0_1 x34_2).f2), .string ((rd_T34 l0_1 x34_2).f3), .int .i64 ((rd_T34 l0_1 x34_2).f4), .int .i64 ((rd_T34 l0_1 x34_2).f5), .bool ((rd_T34 l0_1 x34_2).f6)] 34 (0, 0))) := ⟨by (with_reducible repeat (first | apply blk_drewN | apply blk_drew | apply blk_alloc)); refine blk_far ?_ NB204_206.out _; (with_reducible repeat (first | apply blk_drewN | apply blk_drew | apply blk_alloc)); refine blk_far ?_ NB204_206.out _; (with_reducible repeat (first | apply blk_drewN | apply blk_drew | apply blk_alloc)); exact BK204.out⟩
                     have n6_ : Aside0 (((w52.setCell ⟨gb206, 0, none⟩ (.int .i64 ((rd_T55 x6_2 x45_3).f0))).setCell ⟨gb206, 1, none⟩ (.int .i64 ((rd_T55 x6_2 x45_3).f1))).heap[gb206]? = some (.cells #[.int .i64 ((rd_T55 x6_2 x45_3).f0), .int .i64 ((rd_T55 x6_2 x45_3).f1)] 55 (0, 0))) := ⟨by (with_reducible repeat (first | apply blk_drewN | apply blk_drew | apply blk_alloc)); refine blk_put (cs := #[.int .i64 ((rd_T55 x6_2 x45_3).f0), .int .i64 0]) ?_ 1 _ rfl; (with_reducible repeat (first | apply blk_drewN | apply blk_drew | apply blk_alloc)); refine blk_put (cs := #[.int .i64 0, .int .i64 0]) ?_ 0 _ rfl; (with_reducible repeat (first | apply blk_drewN | apply blk_drew | apply blk_alloc)); exact BK206.out⟩
                     have n7_ : Aside0 (Below w.heap.size w ((w52.setCell ⟨gb206, 0, none⟩ (.int .i64 ((rd_T55 x6_2 x45_3).f0))).setCell ⟨gb206, 1, none⟩ (.int .i64 ((rd_T55 x6_2 x45_3).f1)))) := ⟨by with_reducible repeat (first | exact HB.out | apply below_alloc | apply pw_below_drewN | apply below_drew1 | refine below_set ?_ GE196.out | refine below_set ?_ GE199.out | refine below_set ?_ GE204.out | refine below_set ?_ GE206.out)⟩
                     (try clear HO_3)
                     (try clear HO_9)
                     (try clear HO_43)
                     (try clear BK196)
                     (try clear BK199)
                     (try clear BK204)
                     (try clear BK206)
                     (try clear HB)
                     generalize ((w52.setCell ⟨gb206, 0, none⟩ (.int .i64 ((rd_T55 x6_2 x45_3).f0))).setCell ⟨gb206, 1, none⟩ (.int .i64 ((rd_T55 x6_2 x45_3).f1))) = w60 at n0_ n1_ n2_ n3_ n4_ n5_ n6_ n7_ ⊢
                     have HO_3 := n0_
                     have HO_9 := n1_
                     have HO_43 := n2_
                     have BK196 := n3_
                     have BK199 := n4_
                     have BK204 := n5_
                     have BK206 := n6_
                     have HB := n7_
                     clear n0_ n1_ n2_ n3_ n4_ n5_ n6_ n7_
                     have n0_ := Aside0.mk (Kd.R_drew HO_3.out)
                     have n1_ := Aside0.mk (Kd.R_drew HO_9.out)
                     have n2_ := Aside0.mk (Kd.R_drew HO_43.out)
                     have n3_ := Aside0.mk (blk_drew BK196.out)
                     have n4_ := Aside0.mk (blk_drew BK199.out)
                     have n5_ := Aside0.mk (blk_drew BK204.out)
                     have n6_ := Aside0.mk (blk_drew BK206.out)
                     have n7_ := Aside0.mk (below_drew1 HB.out)
                     clear HO_3
                     clear HO_9
                     clear HO_43
                     clear BK196
                     clear BK199
                     clear BK204
                     clear BK206
                     clear HB
                     have HO_3 := n0_
                     have HO_9 := n1_
                     have HO_43 := n2_
                     have BK196 := n3_
                     have BK199 := n4_
                     have BK204 := n5_
                     have BK206 := n6_
                     have HB := n7_
                     clear n0_ n1_ n2_ n3_ n4_ n5_ n6_ n7_
                     refine start_ (n := 12) (S := fun w' => w'.cell? ⟨gb206, 0, none⟩ = some (.int .i64 ((rd_T55 x6_2 x45_3).f0)) ∧ w'.cell? ⟨gb206, 1, none⟩ = some (.int .i64 ((rd_T55 x6_2 x45_3).f1)) ∧ w'.cell? ⟨gb204, 0, none⟩ = some (.int .i64 ((rd_T34 l0_1 x34_2).f0)) ∧ w'.cell? ⟨gb204, 1, none⟩ = some (.int .i64 ((rd_T34 l0_1 x34_2).f1)) ∧ w'.cell? ⟨gb204, 2, none⟩ = some (.string ((rd_T34 l0_1 x34_2).f2)) ∧ w'.cell? ⟨gb204, 3, none⟩ = some (.string ((rd_T34 l0_1 x34_2).f3)) ∧ w'.cell? ⟨gb204, 4, none⟩ = some (.int .i64 ((rd_T34 l0_1 x34_2).f4)) ∧ w'.cell? ⟨gb204, 5, none⟩ = some (.int .i64 ((rd_T34 l0_1 x34_2).f5)) ∧ w'.cell? ⟨gb204, 6, none⟩ = some (.bool ((rd_T34 l0_1 x34_2).f6))) (ds := []) #[false, false, false, false, false, false, false, false, false, false, false, false] (by kernel_rfl) rfl rfl ⟨(blk_cell BK206.out 0).trans rfl, (blk_cell BK206.out 1).trans rfl, (blk_cell BK204.out 0).trans rfl, (blk_cell BK204.out 1).trans rfl, (blk_cell BK204.out 2).trans rfl, (blk_cell BK204.out 3).trans rfl, (blk_cell BK204.out 4).trans rfl, (blk_cell BK204.out 5).trans rfl, (blk_cell BK204.out 6).trans rfl⟩ (fun hHeld => ?_); refine with_tabW spec_SelfTimes.tab17 spec_SelfTimes.bits17 (fun HT_ HW_ => ?_)
                     generalize w60.drew = w61 at HO_3 HO_9 HO_43 BK196 BK199 BK204 BK206 HB hHeld ⊢
                     refine pure_ (i := 0) (N := some 54) (v := ?_) (a' := ?_) #[true, false, false, false, false, false, false, false, false, false, false, false] rfl rfl (any_of HT_.out (by kernel_rfl)) (fun _ _ _ h => h) (Or.inl ⟨by rfl, ?_⟩) ?_ ?_
                     rotate_left
                     ·intro w'
                      go_simp
                      with_reducible rfl
                     rotate_left
                     ·simp only [Act.put, List.setIfInBounds_toArray, List.set_cons_zero, List.set_cons_succ, i64_w, i32_w]
                      rfl
                     refine pure_ (i := 1) (N := some 55) (v := ?_) (a' := ?_) #[true, true, false, false, false, false, false, false, false, false, false, false] rfl rfl (any_of HT_.out (by kernel_rfl)) (fun _ _ _ h => h) (Or.inl ⟨by rfl, ?_⟩) ?_ ?_
                     rotate_left
                     ·intro w'
                      go_simp
                      with_reducible rfl
                     rotate_left
                     ·simp only [Act.put, List.setIfInBounds_toArray, List.set_cons_zero, List.set_cons_succ, i64_w, i32_w]
                      rfl
                     refine pure_ (i := 3) (N := some 57) (v := ?_) (a' := ?_) #[true, true, false, true, false, false, false, false, false, false, false, false] rfl rfl (any_of HT_.out (by kernel_rfl)) (fun _ _ _ h => h) (Or.inl ⟨by rfl, ?_⟩) ?_ ?_
                     rotate_left
                     ·intro w'
                      go_simp
                      with_reducible rfl
                     rotate_left
                     ·simp only [Act.put, List.setIfInBounds_toArray, List.set_cons_zero, List.set_cons_succ, i64_w, i32_w]
                      rfl
                     refine pure_ (i := 5) (N := some 59) (v := ?_) (a' := ?_) #[true, true, false, true, false, true, false, false, false, false, false, false] rfl rfl (any_of HT_.out (by kernel_rfl)) (fun _ _ _ h => h) (Or.inl ⟨by rfl, ?_⟩) ?_ ?_
                     rotate_left
                     ·intro w'
                      go_simp
                      with_reducible rfl
                     rotate_left
                     ·simp only [Act.put, List.setIfInBounds_toArray, List.set_cons_zero, List.set_cons_succ, i64_w, i32_w]
                      rfl
                     refine take_ (i := 2) (N := some 56) (v := ?_) (a' := ?_) #[true, true, true, true, false, true, false, false, false, false, false, false] rfl rfl (take_ofW HT_.out HW_.out (by kernel_rfl)) (fun _ _ _ h => h) (Or.inl ⟨by rfl, ?_⟩) hHeld ?_ ?_
                     rotate_left
                     ·rintro w' ⟨s0, s1, s2, s3, s4, s5, s6, s7, s8⟩
                      go_simp
                      with_reducible rfl
                     rotate_left
                     ·simp only [Act.put, List.setIfInBounds_toArray, List.set_cons_zero, List.set_cons_succ, i64_w, i32_w]
                      rfl
                     refine take_ (i := 4) (N := some 58) (v := ?_) (a' := ?_) #[true, true, true, true, true, true, false, false, false, false, false, false] rfl rfl (take_ofW HT_.out HW_.out (by kernel_rfl)) (fun _ _ _ h => h) (Or.inl ⟨by rfl, ?_⟩) hHeld ?_ ?_
                     rotate_left
                     ·rintro w' ⟨s0, s1, s2, s3, s4, s5, s6, s7, s8⟩
                      go_simp
                      with_reducible rfl
                     rotate_left
                     ·simp only [Act.put, List.setIfInBounds_toArray, List.set_cons_zero, List.set_cons_succ, i64_w, i32_w]
                      rfl
                     refine take_ (i := 6) (N := some 60) (v := ?_) (a' := ?_) #[true, true, true, true, true, true, true, false, false, false, false, false] rfl rfl (take_ofW HT_.out HW_.out (by kernel_rfl)) (fun _ _ _ h => h) (Or.inl ⟨by rfl, ?_⟩) hHeld ?_ ?_
                     rotate_left
                     ·rintro w' ⟨s0, s1, s2, s3, s4, s5, s6, s7, s8⟩
                      go_simp
                      with_reducible rfl
                     rotate_left
                     ·simp only [Act.put, List.setIfInBounds_toArray, List.set_cons_zero, List.set_cons_succ, i64_w, i32_w]
                      rfl
                     refine one_ (i := 7) (N := some 61) #[true, true, true, true, true, true, true, true, false, false, false, false] rfl rfl (one_of HT_.out (by kernel_rfl)) (by decide) (fun K hK => ?_)
                     refine goes_ Try.func24 (by kernel_rfl) rfl #[.int .i64 ((rd_T55 x6_2 x45_3).f1), .int .i64 ((rd_T34 l0_1 x34_2).f4)] (by rfl) rfl rfl (by (try simp only [List.map_toArray, List.map_cons, List.map_nil]); first | done | rfl) ?_
                     with_reducible refine (spec_l23Less.calls ((rd_T55 x6_2 x45_3).f1) ((rd_T34 l0_1 x34_2).f4) t207 _ A32.out).mono ?_
                     rintro e w' ⟨rfl, ⟨nd, rfl⟩⟩
                     refine ⟨_, rfl, ?_⟩
                     refine hK.out _ _ ⟨(blk_cell BK206.out 0).trans rfl, (blk_cell BK206.out 1).trans rfl, (blk_cell BK204.out 0).trans rfl, (blk_cell BK204.out 1).trans rfl, (blk_cell BK204.out 2).trans rfl, (blk_cell BK204.out 3).trans rfl, (blk_cell BK204.out 4).trans rfl, (blk_cell BK204.out 5).trans rfl, (blk_cell BK204.out 6).trans rfl⟩ (fun hHeld => ?_)
                     clear hK K
                     refine norm_ (a' := ?_) ?_ ?_
                     rotate_left
                     ·show Act.put _ (some 61) _ = _
                      simp only [Act.put, List.setIfInBounds_toArray, List.set_cons_zero, List.set_cons_succ, i64_w, i32_w]
                      rfl
                     refine pure_ (i := 8) (N := some 62) (v := ?_) (a' := ?_) #[true, true, true, true, true, true, true, true, true, false, false, false] rfl rfl (any_of HT_.out (by kernel_rfl)) (fun _ _ _ h => h) (Or.inl ⟨by rfl, ?_⟩) ?_ ?_
                     rotate_left
                     ·intro w'
                      go_simp
                      with_reducible rfl
                     rotate_left
                     ·simp only [Act.put, List.setIfInBounds_toArray, List.set_cons_zero, List.set_cons_succ, i64_w, i32_w]
                      rfl
                     refine one_ (i := 9) (N := some 63) #[true, true, true, true, true, true, true, true, true, true, false, false] rfl rfl (one_of HT_.out (by kernel_rfl)) (by decide) (fun K hK => ?_)
                     refine value_ (w1 := ?_) (v := ?_) (by rfl) rfl ?_ ?_
                     rotate_left 2
                     ·go_simp
                      constructor
                      ·rfl
                      ·rfl
                     refine hK.out _ _ ⟨(blk_cell (blk_alloc BK206.out _) 0).trans rfl, (blk_cell (blk_alloc BK206.out _) 1).trans rfl, (blk_cell (blk_alloc BK204.out _) 0).trans rfl, (blk_cell (blk_alloc BK204.out _) 1).trans rfl, (blk_cell (blk_alloc BK204.out _) 2).trans rfl, (blk_cell (blk_alloc BK204.out _) 3).trans rfl, (blk_cell (blk_alloc BK204.out _) 4).trans rfl, (blk_cell (blk_alloc BK204.out _) 5).trans rfl, (blk_cell (blk_alloc BK204.out _) 6).trans rfl⟩ (fun hHeld => ?_)
                     clear hK K
                     refine norm_ (a' := ?_) ?_ ?_
                     rotate_left
                     ·show Act.put _ (some 63) _ = _
                      simp only [Act.put, List.setIfInBounds_toArray, List.set_cons_zero, List.set_cons_succ, i64_w, i32_w]
                      rfl
                     refine one_ (i := 10) (N := some 64) #[true, true, true, true, true, true, true, true, true, true, true, false] rfl rfl (one_of HT_.out (by kernel_rfl)) (by decide) (fun K hK => ?_)
                     refine Kd.R_append_step k55 (w0 := w) w.heap.size (by rfl) (.tmp 54) (.tmp 63) 56 55 (.agg #[(.int .i64 0), (.int .i64 0)]) 16 rfl Try.underlying56 info55 rfl (by decide) (by omega) u9 x9_3 (⟨(rd_T55 x6_2 x45_3).f0, t207⟩ : S55) [.int .i64 ((rd_T55 x6_2 x45_3).f0), .int .i64 t207] (fun k_ => some k_ ≠ (.slice (some ad205) x6_2.length co27 : Value).ownBlock ∧ k_ ≠ gb206) (fun _ => False) rfl rfl ?aP (fun _ hk => hk.elim) ?aF ?aO ?aB ?aS ?aL ?_
                     (case aP => exact k55_mkM _ _ _ (⟨(rd_T55 x6_2 x45_3).f0, t207⟩ : S55))
                     (case aB => exact (by with_reducible repeat (first | exact HB.out | apply below_alloc | apply pw_below_drewN | apply below_drew1 | refine below_set ?_ GE196.out | refine below_set ?_ GE199.out | refine below_set ?_ GE204.out | refine below_set ?_ GE206.out)))
                     (case aF => exact (fun k_ hk => ⟨Kd.fresh' (Kd.R_lt (by (with_reducible repeat (first | apply Kd.R_alloc | apply Kd.R_drewN | apply Kd.R_drew)); exact HO_43.out)) k_ hk, Kd.freshB (g := gb206) (by (with_reducible repeat (first | apply blk_drewN | apply blk_drew | apply blk_alloc)); exact BK206.out) k_ hk⟩))
                     (case aO => exact (by (with_reducible repeat (first | apply Kd.R_alloc | apply Kd.R_drewN | apply Kd.R_drew)); exact HO_9.out))
                     (case aS => exact (below_size (by with_reducible repeat (first | exact HB.out | apply below_alloc | apply pw_below_drewN | apply below_drew1 | refine below_set ?_ GE196.out | refine below_set ?_ GE199.out | refine below_set ?_ GE204.out | refine below_set ?_ GE206.out))))
                     (case aL => have := LMc33.out; omega)
                     intro v209 w62 ho hb hg hat
                     rw [← Ny208.out] at ho
                     have n0_ := Aside0.mk (Kd.R_over' (by (with_reducible repeat (first | apply Kd.R_alloc | apply Kd.R_drewN | apply Kd.R_drew)); exact HO_3.out) (Kd.R_typed (by (with_reducible repeat (first | apply Kd.R_alloc | apply Kd.R_drewN | apply Kd.R_drew)); exact HO_9.out)) (by decide) hg)
                     have n1_ := Aside0.mk (Kd.R_after (ok := (fun k_ => k_ ≠ gb206)) (by (with_reducible repeat (first | apply Kd.R_alloc | apply Kd.R_drewN | apply Kd.R_drew)); exact Kd.R_mono HO_43.out (fun _ hk => ⟨hk.2, hk.1⟩)) hg hat)
                     have n2_ := Aside0.mk (blk_grown (g := gb196) (by (with_reducible repeat (first | apply blk_drewN | apply blk_drew | apply blk_alloc)); exact BK196.out) hg (Kd.R_ne HO_9.out BK196.out (by decide)))
                     have n3_ := Aside0.mk (blk_grown (g := gb199) (by (with_reducible repeat (first | apply blk_drewN | apply blk_drew | apply blk_alloc)); exact BK199.out) hg (Kd.R_ne HO_9.out BK199.out (by decide)))
                     have n4_ := Aside0.mk (blk_grown (g := gb204) (by (with_reducible repeat (first | apply blk_drewN | apply blk_drew | apply blk_alloc)); exact BK204.out) hg (Kd.R_ne HO_9.out BK204.out (by decide)))
                     have n5_ := Aside0.mk (blk_grown (g := gb206) (by (with_reducible repeat (first | apply blk_drewN | apply blk_drew | apply blk_alloc)); exact BK206.out) hg (Kd.R_away HO_9.out (fun _ hk => hk.2)))
                     have n6_ := Aside0.mk (hb)
                     have n7_ := Aside0.mk (ho)
                     clear HO_3
                     clear HO_43
                     clear BK196
                     clear BK199
                     clear BK204
                     clear BK206
                     clear HB
                     clear HO_9
                     have HO_3 := n0_
                     have HO_43 := n1_
                     have BK196 := n2_
                     have BK199 := n3_
                     have BK204 := n4_
                     have BK206 := n5_
                     have HB := n6_
                     have HO210 := n7_
                     clear n0_ n1_ n2_ n3_ n4_ n5_ n6_ n7_
                     clear ho hb hg hat
                     refine hK.out _ _ ⟨(blk_cell BK206.out 0).trans rfl, (blk_cell BK206.out 1).trans rfl, (blk_cell BK204.out 0).trans rfl, (blk_cell BK204.out 1).trans rfl, (blk_cell BK204.out 2).trans rfl, (blk_cell BK204.out 3).trans rfl, (blk_cell BK204.out 4).trans rfl, (blk_cell BK204.out 5).trans rfl, (blk_cell BK204.out 6).trans rfl⟩ (fun hHeld => ?_)
                     clear hK K
                     refine norm_ (a' := ?_) ?_ ?_
                     rotate_left
                     ·show Act.put _ (some 64) _ = _
                      simp only [Act.put, List.setIfInBounds_toArray, List.set_cons_zero, List.set_cons_succ, i64_w, i32_w]
                      rfl
                     refine pure_ (i := 11) (N := some 9) (v := ?_) (a' := ?_) #[true, true, true, true, true, true, true, true, true, true, true, true] rfl rfl (any_of HT_.out (by kernel_rfl)) (fun _ _ _ h => h) (Or.inl ⟨by rfl, ?_⟩) ?_ ?_
                     rotate_left
                     ·intro w'
                      go_simp
                      with_reducible rfl
                     rotate_left
                     ·simp only [Act.put, List.setIfInBounds_toArray, List.set_cons_zero, List.set_cons_succ, i64_w, i32_w]
                      rfl
                     refine done_ (done_of HT_.out (by kernel_rfl)) ?_
                     have hcz63_0 : w62.cell? ⟨gb204, 0, none⟩ = some (.int .i64 ((rd_T34 l0_1 x34_2).f0)) := (blk_cell BK204.out 0).trans rfl
                     have hcz63_1 : w62.cell? ⟨gb204, 1, none⟩ = some (.int .i64 ((rd_T34 l0_1 x34_2).f1)) := (blk_cell BK204.out 1).trans rfl
                     have hcz63_2 : w62.cell? ⟨gb204, 2, none⟩ = some (.string ((rd_T34 l0_1 x34_2).f2)) := (blk_cell BK204.out 2).trans rfl
                     have hcz63_3 : w62.cell? ⟨gb204, 3, none⟩ = some (.string ((rd_T34 l0_1 x34_2).f3)) := (blk_cell BK204.out 3).trans rfl
                     have hcz63_4 : w62.cell? ⟨gb204, 4, none⟩ = some (.int .i64 ((rd_T34 l0_1 x34_2).f4)) := (blk_cell BK204.out 4).trans rfl
                     have hcz63_5 : w62.cell? ⟨gb204, 5, none⟩ = some (.int .i64 ((rd_T34 l0_1 x34_2).f5)) := (blk_cell BK204.out 5).trans rfl
                     have hcz63_6 : w62.cell? ⟨gb204, 6, none⟩ = some (.bool ((rd_T34 l0_1 x34_2).f6)) := (blk_cell BK204.out 6).trans rfl
                     have hfz63_0 := blk_frozen BK204.out 0
                     have hfz63_1 := blk_frozen BK204.out 1
                     have hfz63_2 := blk_frozen BK204.out 2
                     have hfz63_3 := blk_frozen BK204.out 3
                     have hfz63_4 := blk_frozen BK204.out 4
                     have hfz63_5 := blk_frozen BK204.out 5
                     have hfz63_6 := blk_frozen BK204.out 6
                     have hcz64_0 : w62.cell? ⟨gb206, 0, none⟩ = some (.int .i64 ((rd_T55 x6_2 x45_3).f0)) := (blk_cell BK206.out 0).trans rfl
                     have hcz64_1 : w62.cell? ⟨gb206, 1, none⟩ = some (.int .i64 ((rd_T55 x6_2 x45_3).f1)) := (blk_cell BK206.out 1).trans rfl
                     have hfz64_0 := blk_frozen BK206.out 0
                     have hfz64_1 := blk_frozen BK206.out 1
                     try go_wp2
                     go_roundg k3
                     case measure => have := HK1.out; have := HK2.out; have := HK3.out; omega
                     case rel => exact ⟨(y208), (wrap64 (x45_3 + 1)), (by first | rfl | (simp; done) | (simp [*]; done)), H', ⟨by have := HK1.out; have := HK2.out; have := HK3.out; omega⟩, ⟨by (with_reducible repeat (first | apply Kd.R_alloc | apply Kd.R_drewN | apply Kd.R_drew)); exact HO_3.out⟩, ⟨by (with_reducible repeat (first | apply Kd.R_alloc | apply Kd.R_drewN | apply Kd.R_drew)); exact Kd.R_mono HO210.out (fun _ hk => hk.1)⟩, ⟨by (with_reducible repeat (first | apply Kd.R_alloc | apply Kd.R_drewN | apply Kd.R_drew)); exact Kd.R_mono HO_43.out (fun _ hk => hk.2)⟩, ⟨by (with_reducible repeat (first | apply blk_drewN | apply blk_drew | apply blk_alloc)); exact BK196.out⟩, ⟨by (with_reducible repeat (first | apply blk_drewN | apply blk_drew | apply blk_alloc)); exact BK199.out⟩, ⟨by (with_reducible repeat (first | apply blk_drewN | apply blk_drew | apply blk_alloc)); exact BK204.out⟩, ⟨by with_reducible repeat (first | exact HB.out | apply below_alloc | apply pw_below_drewN | apply below_drew1 | refine below_set ?_ GE196.out | refine below_set ?_ GE199.out | refine below_set ?_ GE204.out | refine below_set ?_ GE206.out)⟩⟩
                   ·rw [if_neg c33] at H
                    exact absurd H (by simp)
                  ·rw [if_neg c31] at H
                   have c31b0 : decide (((rd_T55 x6_2 x45_3).f0) < ((rd_T34 l0_1 x34_2).f4)) = false := decide_eq_false c31
                   clear c31
                   by_cases c65 : ((rd_T34 l0_1 x34_2).f5) < ((rd_T55 x6_2 x45_3).f1)
                   ·rw [if_pos c65] at H
                    have c65b0 : decide (((rd_T34 l0_1 x34_2).f5) < ((rd_T55 x6_2 x45_3).f1)) = true := decide_eq_true c65
                    clear c65
                    replace H := Option.bind_eq_some_iff.mp H
                    obtain ⟨t215, A660, H⟩ := H
                    replace H : (if x9_3.length < 8796093022208 then (spec_SelfTimes.l2 k3 x3_1 (x9_3 ++ [(⟨t215, (rd_T55 x6_2 x45_3).f1⟩ : S55)]) l0_1 (l0_1.length : Int) x21_1 l0_1 (l0_1.length : Int) x34_2 x6_2 (x6_2.length : Int) (wrap64 (x45_3 + 1)) a0_0 l0_1 ((rd_T34 l0_1 x21_1).f0) ((rd_T34 l0_1 x21_1).f1) ((rd_T34 l0_1 x21_1).f2) ((rd_T34 l0_1 x21_1).f3) ((rd_T34 l0_1 x21_1).f4) ((rd_T34 l0_1 x21_1).f5) ((rd_T34 l0_1 x21_1).f6) ((rd_T34 l0_1 x34_2).f0) ((rd_T34 l0_1 x34_2).f1) ((rd_T34 l0_1 x34_2).f2) ((rd_T34 l0_1 x34_2).f3) ((rd_T34 l0_1 x34_2).f4) ((rd_T34 l0_1 x34_2).f5) ((rd_T34 l0_1 x34_2).f6)) else (none)) = some r := H
                    have A66 := Aside0.mk A660
                    clear A660
                    by_cases c67 : x9_3.length < 8796093022208
                    ·rw [if_pos c67] at H
                     have LMc67 := Aside0.mk c67
                     clear c67
                     obtain ⟨y216, hy216⟩ : ∃ y_ : List (S55), y_ = (x9_3 ++ [(⟨t215, (rd_T55 x6_2 x45_3).f1⟩ : S55)]) := ⟨_, rfl⟩
                     replace H : (spec_SelfTimes.l2 k3 x3_1 y216 l0_1 (l0_1.length : Int) x21_1 l0_1 (l0_1.length : Int) x34_2 x6_2 (x6_2.length : Int) (wrap64 (x45_3 + 1)) a0_0 l0_1 ((rd_T34 l0_1 x21_1).f0) ((rd_T34 l0_1 x21_1).f1) ((rd_T34 l0_1 x21_1).f2) ((rd_T34 l0_1 x21_1).f3) ((rd_T34 l0_1 x21_1).f4) ((rd_T34 l0_1 x21_1).f5) ((rd_T34 l0_1 x21_1).f6) ((rd_T34 l0_1 x34_2).f0) ((rd_T34 l0_1 x34_2).f1) ((rd_T34 l0_1 x34_2).f2) ((rd_T34 l0_1 x34_2).f3) ((rd_T34 l0_1 x34_2).f4) ((rd_T34 l0_1 x34_2).f5) ((rd_T34 l0_1 x34_2).f6)) = some r := by first | (rw [hy216]; with_reducible exact H) | (have H2_ := (Option.bind_some _ _).symm.trans H; rw [hy216]; with_reducible exact H2_) | (have H2_ := (Option.bind_some _ _).symm.trans H; with_reducible exact H2_) | with_reducible exact H | (rw [hy216]; exact H) | exact H
                     have Ny216 := Aside0.mk hy216
                     clear hy216
                     have H' := Aside0.mk H
                     clear H
                     have p205 : 0 ≤ (x45_3 : Int) := of_decide_eq_true (by assumption)
                     have q205 : x45_3 < (x6_2.length : Int) := of_decide_eq_true (by assumption)
                     obtain ⟨ad205, e205, hx205_0, hx205_1⟩ := at_T55 (Kd.R_reads' HO_43.out).2.2 x45_3 p205 q205
                     cases e205
                     replace p205 := eq_true p205
                     replace q205 := eq_true q205
                     try go_wp2_with (first | ((with_reducible refine gate_dst (N := 11) rfl ?_); refine box_event ?hg (N := 11) ?hd (cs := #[.int .i64 0, .int .i64 0]) (t := 55) ?hr ?_; (case hd => rfl); (case hg => rfl); (case hr => first | (go_simp; done) | (go_simp; rfl)); intro gb206 hg w68 hbox hb; have n0_ := Aside0.mk (Kd.R_below (by (with_reducible repeat (first | apply Kd.R_alloc | apply Kd.R_drewN | apply Kd.R_drew)); exact HO_3.out) hb); have n1_ := Aside0.mk (Kd.R_below (Kd.R_elderB (by (with_reducible repeat (first | apply Kd.R_alloc | apply Kd.R_drewN | apply Kd.R_drew)); exact HO_9.out) gb206 (Nat.le_of_eq hg.symm)) hb); have n2_ := Aside0.mk (Kd.R_below (Kd.R_elderB (by (with_reducible repeat (first | apply Kd.R_alloc | apply Kd.R_drewN | apply Kd.R_drew)); exact HO_43.out) gb206 (Nat.le_of_eq hg.symm)) hb); have n3_ := Aside0.mk (blk_below (g := gb196) (by (with_reducible repeat (first | apply blk_drewN | apply blk_drew | apply blk_alloc)); exact BK196.out) hb); have n4_ := Aside0.mk (blk_below (g := gb199) (by (with_reducible repeat (first | apply blk_drewN | apply blk_drew | apply blk_alloc)); exact BK199.out) hb); have n5_ := Aside0.mk (blk_below (g := gb204) (by (with_reducible repeat (first | apply blk_drewN | apply blk_drew | apply blk_alloc)); exact BK204.out) hb); have n6_ := Aside0.mk (below_step (by with_reducible repeat (first | exact HB.out | apply below_alloc | apply pw_below_drewN | apply below_drew1 | refine below_set ?_ GE196.out | refine below_set ?_ GE199.out | refine below_set ?_ GE204.out)) hb); have n7_ := Aside0.mk (hbox); have n8_ := Aside0.mk ((by rw [hg]; exact (below_size (by with_reducible repeat (first | exact HB.out | apply below_alloc | apply pw_below_drewN | apply below_drew1 | refine below_set ?_ GE196.out | refine below_set ?_ GE199.out | refine below_set ?_ GE204.out))) : w.heap.size ≤ gb206)); have n9_ := n8_; have n10_ := Aside0.mk ((by rw [hg]; exact Nat.ne_of_lt (blk_lt (g := gb196) (by (with_reducible repeat (first | apply blk_drewN | apply blk_drew | apply blk_alloc)); exact BK196.out)) : gb196 ≠ gb206)); have n11_ := Aside0.mk ((by rw [hg]; exact Nat.ne_of_gt (blk_lt (g := gb196) (by (with_reducible repeat (first | apply blk_drewN | apply blk_drew | apply blk_alloc)); exact BK196.out)) : gb206 ≠ gb196)); have n12_ := Aside0.mk ((by rw [hg]; exact Nat.ne_of_lt (blk_lt (g := gb199) (by (with_reducible repeat (first | apply blk_drewN | apply blk_drew | apply blk_alloc)); exact BK199.out)) : gb199 ≠ gb206)); have n13_ := Aside0.mk ((by rw [hg]; exact Nat.ne_of_gt (blk_lt (g := gb199) (by (with_reducible repeat (first | apply blk_drewN | apply blk_drew | apply blk_alloc)); exact BK199.out)) : gb206 ≠ gb199)); have n14_ := Aside0.mk ((by rw [hg]; exact Nat.ne_of_lt (blk_lt (g := gb204) (by (with_reducible repeat (first | apply blk_drewN | apply blk_drew | apply blk_alloc)); exact BK204.out)) : gb204 ≠ gb206)); have n15_ := Aside0.mk ((by rw [hg]; exact Nat.ne_of_gt (blk_lt (g := gb204) (by (with_reducible repeat (first | apply blk_drewN | apply blk_drew | apply blk_alloc)); exact BK204.out)) : gb206 ≠ gb204)); clear HO_3; clear HO_9; clear HO_43; clear BK196; clear BK199; clear BK204; clear HB; have HO_3 := n0_; have HO_9 := n1_; have HO_43 := n2_; have BK196 := n3_; have BK199 := n4_; have BK204 := n5_; have HB := n6_; have BK206 := n7_; have GW206 := n8_; have GE206 := n9_; have NB196_206 := n10_; have NB206_196 := n11_; have NB199_206 := n12_; have NB206_199 := n13_; have NB204_206 := n14_; have NB206_204 := n15_; clear n0_ n1_ n2_ n3_ n4_ n5_ n6_ n7_ n8_ n9_ n10_ n11_ n12_ n13_ n14_ n15_; clear hb hbox hg; have hnb69 := NB206_196.out; have hnc69 := NB196_206.out; have hnb70 := NB206_199.out; have hnc70 := NB199_206.out; have hnb71 := NB206_204.out; have hnc71 := NB204_206.out; have hcz72_0 : w68.cell? ⟨gb206, 0, none⟩ = some (.int .i64 0) := (blk_cell BK206.out 0).trans rfl; have hcz72_1 : w68.cell? ⟨gb206, 1, none⟩ = some (.int .i64 0) := (blk_cell BK206.out 1).trans rfl; have hfz72_0 := blk_frozen BK206.out 0; have hfz72_1 := blk_frozen BK206.out 1; have hnb73 := NB204_196.out; have hnc73 := NB196_204.out; have hnb74 := NB204_199.out; have hnc74 := NB199_204.out; have hcz75_0 : w68.cell? ⟨gb204, 0, none⟩ = some (.int .i64 ((rd_T34 l0_1 x34_2).f0)) := (blk_cell BK204.out 0).trans rfl; have hcz75_1 : w68.cell? ⟨gb204, 1, none⟩ = some (.int .i64 ((rd_T34 l0_1 x34_2).f1)) := (blk_cell BK204.out 1).trans rfl; have hcz75_2 : w68.cell? ⟨gb204, 2, none⟩ = some (.string ((rd_T34 l0_1 x34_2).f2)) := (blk_cell BK204.out 2).trans rfl; have hcz75_3 : w68.cell? ⟨gb204, 3, none⟩ = some (.string ((rd_T34 l0_1 x34_2).f3)) := (blk_cell BK204.out 3).trans rfl; have hcz75_4 : w68.cell? ⟨gb204, 4, none⟩ = some (.int .i64 ((rd_T34 l0_1 x34_2).f4)) := (blk_cell BK204.out 4).trans rfl; have hcz75_5 : w68.cell? ⟨gb204, 5, none⟩ = some (.int .i64 ((rd_T34 l0_1 x34_2).f5)) := (blk_cell BK204.out 5).trans rfl; have hcz75_6 : w68.cell? ⟨gb204, 6, none⟩ = some (.bool ((rd_T34 l0_1 x34_2).f6)) := (blk_cell BK204.out 6).trans rfl; have hfz75_0 := blk_frozen BK204.out 0; have hfz75_1 := blk_frozen BK204.out 1; have hfz75_2 := blk_frozen BK204.out 2; have hfz75_3 := blk_frozen BK204.out 3; have hfz75_4 := blk_frozen BK204.out 4; have hfz75_5 := blk_frozen BK204.out 5; have hfz75_6 := blk_frozen BK204.out 6))
                     have n0_ : Aside0 (Kd.R (Kd.int .i64) 3 ((w68.setCell ⟨gb206, 0, none⟩ (.int .i64 ((rd_T55 x6_2 x45_3).f0))).setCell ⟨gb206, 1, none⟩ (.int .i64 ((rd_T55 x6_2 x45_3).f1))) w.heap.size (fun _ => True) u3 x3_1) := ⟨by (with_reducible repeat (first | apply Kd.R_alloc | apply Kd.R_drewN | apply Kd.R_drew)); exact Kd.R_mono (Kd.R_far (p := ⟨gb206, 1, none⟩) (Kd.R_far (p := ⟨gb206, 0, none⟩) (Kd.R_types HO_3.out BK206.out (by decide)) (fun _ hk => hk.2) (.int .i64 ((rd_T55 x6_2 x45_3).f0))) (fun _ hk => hk.2) (.int .i64 ((rd_T55 x6_2 x45_3).f1))) (fun _ hk => trivial)⟩
                     have n1_ : Aside0 (Kd.R k55 55 ((w68.setCell ⟨gb206, 0, none⟩ (.int .i64 ((rd_T55 x6_2 x45_3).f0))).setCell ⟨gb206, 1, none⟩ (.int .i64 ((rd_T55 x6_2 x45_3).f1))) w.heap.size (fun k_ => some k_ ≠ (.slice (some ad205) x6_2.length co27 : Value).ownBlock ∧ k_ ≠ gb206) u9 x9_3) := ⟨by (with_reducible repeat (first | apply Kd.R_alloc | apply Kd.R_drewN | apply Kd.R_drew)); exact Kd.R_mono (Kd.R_far (p := ⟨gb206, 1, none⟩) (Kd.R_far (p := ⟨gb206, 0, none⟩) (Kd.R_mono HO_9.out (fun k_ hk => (⟨hk, hk.2⟩ : _ ∧ k_ ≠ gb206))) (fun _ hk => hk.2) (.int .i64 ((rd_T55 x6_2 x45_3).f0))) (fun _ hk => hk.2) (.int .i64 ((rd_T55 x6_2 x45_3).f1))) (fun _ hk => ⟨hk.1.1, hk.1.2⟩)⟩
                     have n2_ : Aside0 (Kd.R k55 55 ((w68.setCell ⟨gb206, 0, none⟩ (.int .i64 ((rd_T55 x6_2 x45_3).f0))).setCell ⟨gb206, 1, none⟩ (.int .i64 ((rd_T55 x6_2 x45_3).f1))) w.heap.size (fun k_ => some k_ ≠ (u9 : Value).ownBlock ∧ k_ ≠ gb206) (.slice (some ad205) x6_2.length co27) x6_2) := ⟨by (with_reducible repeat (first | apply Kd.R_alloc | apply Kd.R_drewN | apply Kd.R_drew)); exact Kd.R_mono (Kd.R_far (p := ⟨gb206, 1, none⟩) (Kd.R_far (p := ⟨gb206, 0, none⟩) (Kd.R_mono HO_43.out (fun k_ hk => (⟨hk, hk.2⟩ : _ ∧ k_ ≠ gb206))) (fun _ hk => hk.2) (.int .i64 ((rd_T55 x6_2 x45_3).f0))) (fun _ hk => hk.2) (.int .i64 ((rd_T55 x6_2 x45_3).f1))) (fun _ hk => ⟨hk.1.1, hk.1.2⟩)⟩
                     have n3_ : Aside0 (((w68.setCell ⟨gb206, 0, none⟩ (.int .i64 ((rd_T55 x6_2 x45_3).f0))).setCell ⟨gb206, 1, none⟩ (.int .i64 ((rd_T55 x6_2 x45_3).f1))).heap[gb196]? = some (.cells #[.int .i64 a0_0, .slice (some ad198) l0_1.length c0_1] 25 (0, 0))) := ⟨by (with_reducible repeat (first | apply blk_drewN | apply blk_drew | apply blk_alloc)); refine blk_far ?_ NB196_206.out _; (with_reducible repeat (first | apply blk_drewN | apply blk_drew | apply blk_alloc)); refine blk_far ?_ NB196_206.out _; (with_reducible repeat (first | apply blk_drewN | apply blk_drew | apply blk_alloc)); exact BK196.out⟩
                     have n4_ : Aside0 (((w68.setCell ⟨gb206, 0, none⟩ (.int .i64 ((rd_T55 x6_2 x45_3).f0))).setCell ⟨gb206, 1, none⟩ (.int .i64 ((rd_T55 x6_2 x45_3).f1))).heap[gb199]? = some (.cells #[.int .i64 ((rd_T34 l0_1 x21_1).f0), .int .i64 ((rd_T34 l0_1 x21_1).f1), .string ((rd_T34 l0_1 x21_1).f2), .string ((rd_T34 l0_1 x21_1).f3), .int .i64 ((rd_T34 l0_1 x21_1).f4), .int .i64 ((rd_T34 l0_1 x21_1).f5), .bool ((rd_T34 l0_1 x21_1).f6)] 34 (0, 0))) := ⟨by (with_reducible repeat (first | apply blk_drewN | apply blk_drew | apply blk_alloc)); refine blk_far ?_ NB199_206.out _; (with_reducible repeat (first | apply blk_drewN | apply blk_drew | apply blk_alloc)); refine blk_far ?_ NB199_206.out _; (with_reducible repeat (first | apply blk_drewN | apply blk_drew | apply blk_alloc)); exact BK199.out⟩
                     have n5_ : Aside0 (((w68.setCell ⟨gb206, 0, none⟩ (.int .i64 ((rd_T55 x6_2 x45_3).f0))).setCell ⟨gb206, 1, none⟩ (.int .i64 ((rd_T55 x6_2 x45_3).f1))).heap[gb204]? = some (.cells #[.int .i64 ((rd_T34 l0_1 x34_2).f0), .int .i64 ((rd_T34 l0_1 x34_2).f1), .string ((rd_T34 l0_1 x34_2).f2), .string ((rd_T34 l0_1 x34_2).f3), .int .i64 ((rd_T34 l0_1 x34_2).f4), .int .i64 ((rd_T34 l0_1 x34_2).f5), .bool ((rd_T34 l0_1 x34_2).f6)] 34 (0, 0))) := ⟨by (with_reducible repeat (first | apply blk_drewN | apply blk_drew | apply blk_alloc)); refine blk_far ?_ NB204_206.out _; (with_reducible repeat (first | apply blk_drewN | apply blk_drew | apply blk_alloc)); refine blk_far ?_ NB204_206.out _; (with_reducible repeat (first | apply blk_drewN | apply blk_drew | apply blk_alloc)); exact BK204.out⟩
                     have n6_ : Aside0 (((w68.setCell ⟨gb206, 0, none⟩ (.int .i64 ((rd_T55 x6_2 x45_3).f0))).setCell ⟨gb206, 1, none⟩ (.int .i64 ((rd_T55 x6_2 x45_3).f1))).heap[gb206]? = some (.cells #[.int .i64 ((rd_T55 x6_2 x45_3).f0), .int .i64 ((rd_T55 x6_2 x45_3).f1)] 55 (0, 0))) := ⟨by (with_reducible repeat (first | apply blk_drewN | apply blk_drew | apply blk_alloc)); refine blk_put (cs := #[.int .i64 ((rd_T55 x6_2 x45_3).f0), .int .i64 0]) ?_ 1 _ rfl; (with_reducible repeat (first | apply blk_drewN | apply blk_drew | apply blk_alloc)); refine blk_put (cs := #[.int .i64 0, .int .i64 0]) ?_ 0 _ rfl; (with_reducible repeat (first | apply blk_drewN | apply blk_drew | apply blk_alloc)); exact BK206.out⟩
                     have n7_ : Aside0 (Below w.heap.size w ((w68.setCell ⟨gb206, 0, none⟩ (.int .i64 ((rd_T55 x6_2 x45_3).f0))).setCell ⟨gb206, 1, none⟩ (.int .i64 ((rd_T55 x6_2 x45_3).f1)))) := ⟨by with_reducible repeat (first | exact HB.out | apply below_alloc | apply pw_below_drewN | apply below_drew1 | refine below_set ?_ GE196.out | refine below_set ?_ GE199.out | refine below_set ?_ GE204.out | refine below_set ?_ GE206.out)⟩
                     (try clear HO_3)
                     (try clear HO_9)
                     (try clear HO_43)
                     (try clear BK196)
                     (try clear BK199)
                     (try clear BK204)
                     (try clear BK206)
                     (try clear HB)
                     generalize ((w68.setCell ⟨gb206, 0, none⟩ (.int .i64 ((rd_T55 x6_2 x45_3).f0))).setCell ⟨gb206, 1, none⟩ (.int .i64 ((rd_T55 x6_2 x45_3).f1))) = w76 at n0_ n1_ n2_ n3_ n4_ n5_ n6_ n7_ ⊢
                     have HO_3 := n0_
                     have HO_9 := n1_
                     have HO_43 := n2_
                     have BK196 := n3_
                     have BK199 := n4_
                     have BK204 := n5_
                     have BK206 := n6_
                     have HB := n7_
                     clear n0_ n1_ n2_ n3_ n4_ n5_ n6_ n7_
                     have n0_ := Aside0.mk (Kd.R_drew HO_3.out)
                     have n1_ := Aside0.mk (Kd.R_drew HO_9.out)
                     have n2_ := Aside0.mk (Kd.R_drew HO_43.out)
                     have n3_ := Aside0.mk (blk_drew BK196.out)
                     have n4_ := Aside0.mk (blk_drew BK199.out)
                     have n5_ := Aside0.mk (blk_drew BK204.out)
                     have n6_ := Aside0.mk (blk_drew BK206.out)
                     have n7_ := Aside0.mk (below_drew1 HB.out)
                     clear HO_3
                     clear HO_9
                     clear HO_43
                     clear BK196
                     clear BK199
                     clear BK204
                     clear BK206
                     clear HB
                     have HO_3 := n0_
                     have HO_9 := n1_
                     have HO_43 := n2_
                     have BK196 := n3_
                     have BK199 := n4_
                     have BK204 := n5_
                     have BK206 := n6_
                     have HB := n7_
                     clear n0_ n1_ n2_ n3_ n4_ n5_ n6_ n7_
                     refine start_ (n := 12) (S := fun w' => w'.cell? ⟨gb206, 0, none⟩ = some (.int .i64 ((rd_T55 x6_2 x45_3).f0)) ∧ w'.cell? ⟨gb206, 1, none⟩ = some (.int .i64 ((rd_T55 x6_2 x45_3).f1)) ∧ w'.cell? ⟨gb204, 0, none⟩ = some (.int .i64 ((rd_T34 l0_1 x34_2).f0)) ∧ w'.cell? ⟨gb204, 1, none⟩ = some (.int .i64 ((rd_T34 l0_1 x34_2).f1)) ∧ w'.cell? ⟨gb204, 2, none⟩ = some (.string ((rd_T34 l0_1 x34_2).f2)) ∧ w'.cell? ⟨gb204, 3, none⟩ = some (.string ((rd_T34 l0_1 x34_2).f3)) ∧ w'.cell? ⟨gb204, 4, none⟩ = some (.int .i64 ((rd_T34 l0_1 x34_2).f4)) ∧ w'.cell? ⟨gb204, 5, none⟩ = some (.int .i64 ((rd_T34 l0_1 x34_2).f5)) ∧ w'.cell? ⟨gb204, 6, none⟩ = some (.bool ((rd_T34 l0_1 x34_2).f6))) (ds := []) #[false, false, false, false, false, false, false, false, false, false, false, false] (by kernel_rfl) rfl rfl ⟨(blk_cell BK206.out 0).trans rfl, (blk_cell BK206.out 1).trans rfl, (blk_cell BK204.out 0).trans rfl, (blk_cell BK204.out 1).trans rfl, (blk_cell BK204.out 2).trans rfl, (blk_cell BK204.out 3).trans rfl, (blk_cell BK204.out 4).trans rfl, (blk_cell BK204.out 5).trans rfl, (blk_cell BK204.out 6).trans rfl⟩ (fun hHeld => ?_); refine with_tabW spec_SelfTimes.tab19 spec_SelfTimes.bits19 (fun HT_ HW_ => ?_)
                     generalize w76.drew = w77 at HO_3 HO_9 HO_43 BK196 BK199 BK204 BK206 HB hHeld ⊢
                     refine pure_ (i := 0) (N := some 70) (v := ?_) (a' := ?_) #[true, false, false, false, false, false, false, false, false, false, false, false] rfl rfl (any_of HT_.out (by kernel_rfl)) (fun _ _ _ h => h) (Or.inl ⟨by rfl, ?_⟩) ?_ ?_
                     rotate_left
                     ·intro w'
                      go_simp
                      with_reducible rfl
                     rotate_left
                     ·simp only [Act.put, List.setIfInBounds_toArray, List.set_cons_zero, List.set_cons_succ, i64_w, i32_w]
                      rfl
                     refine pure_ (i := 1) (N := some 71) (v := ?_) (a' := ?_) #[true, true, false, false, false, false, false, false, false, false, false, false] rfl rfl (any_of HT_.out (by kernel_rfl)) (fun _ _ _ h => h) (Or.inl ⟨by rfl, ?_⟩) ?_ ?_
                     rotate_left
                     ·intro w'
                      go_simp
                      with_reducible rfl
                     rotate_left
                     ·simp only [Act.put, List.setIfInBounds_toArray, List.set_cons_zero, List.set_cons_succ, i64_w, i32_w]
                      rfl
                     refine pure_ (i := 3) (N := some 73) (v := ?_) (a' := ?_) #[true, true, false, true, false, false, false, false, false, false, false, false] rfl rfl (any_of HT_.out (by kernel_rfl)) (fun _ _ _ h => h) (Or.inl ⟨by rfl, ?_⟩) ?_ ?_
                     rotate_left
                     ·intro w'
                      go_simp
                      with_reducible rfl
                     rotate_left
                     ·simp only [Act.put, List.setIfInBounds_toArray, List.set_cons_zero, List.set_cons_succ, i64_w, i32_w]
                      rfl
                     refine pure_ (i := 6) (N := some 76) (v := ?_) (a' := ?_) #[true, true, false, true, false, false, true, false, false, false, false, false] rfl rfl (any_of HT_.out (by kernel_rfl)) (fun _ _ _ h => h) (Or.inl ⟨by rfl, ?_⟩) ?_ ?_
                     rotate_left
                     ·intro w'
                      go_simp
                      with_reducible rfl
                     rotate_left
                     ·simp only [Act.put, List.setIfInBounds_toArray, List.set_cons_zero, List.set_cons_succ, i64_w, i32_w]
                      rfl
                     refine take_ (i := 2) (N := some 72) (v := ?_) (a' := ?_) #[true, true, true, true, false, false, true, false, false, false, false, false] rfl rfl (take_ofW HT_.out HW_.out (by kernel_rfl)) (fun _ _ _ h => h) (Or.inl ⟨by rfl, ?_⟩) hHeld ?_ ?_
                     rotate_left
                     ·rintro w' ⟨s0, s1, s2, s3, s4, s5, s6, s7, s8⟩
                      go_simp
                      with_reducible rfl
                     rotate_left
                     ·simp only [Act.put, List.setIfInBounds_toArray, List.set_cons_zero, List.set_cons_succ, i64_w, i32_w]
                      rfl
                     refine take_ (i := 4) (N := some 74) (v := ?_) (a' := ?_) #[true, true, true, true, true, false, true, false, false, false, false, false] rfl rfl (take_ofW HT_.out HW_.out (by kernel_rfl)) (fun _ _ _ h => h) (Or.inl ⟨by rfl, ?_⟩) hHeld ?_ ?_
                     rotate_left
                     ·rintro w' ⟨s0, s1, s2, s3, s4, s5, s6, s7, s8⟩
                      go_simp
                      with_reducible rfl
                     rotate_left
                     ·simp only [Act.put, List.setIfInBounds_toArray, List.set_cons_zero, List.set_cons_succ, i64_w, i32_w]
                      rfl
                     refine take_ (i := 7) (N := some 77) (v := ?_) (a' := ?_) #[true, true, true, true, true, false, true, true, false, false, false, false] rfl rfl (take_ofW HT_.out HW_.out (by kernel_rfl)) (fun _ _ _ h => h) (Or.inl ⟨by rfl, ?_⟩) hHeld ?_ ?_
                     rotate_left
                     ·rintro w' ⟨s0, s1, s2, s3, s4, s5, s6, s7, s8⟩
                      go_simp
                      with_reducible rfl
                     rotate_left
                     ·simp only [Act.put, List.setIfInBounds_toArray, List.set_cons_zero, List.set_cons_succ, i64_w, i32_w]
                      rfl
                     refine one_ (i := 5) (N := some 75) #[true, true, true, true, true, true, true, true, false, false, false, false] rfl rfl (one_of HT_.out (by kernel_rfl)) (by decide) (fun K hK => ?_)
                     refine goes_ Try.func25 (by kernel_rfl) rfl #[.int .i64 ((rd_T55 x6_2 x45_3).f0), .int .i64 ((rd_T34 l0_1 x34_2).f5)] (by rfl) rfl rfl (by (try simp only [List.map_toArray, List.map_cons, List.map_nil]); first | done | rfl) ?_
                     with_reducible refine (spec_l23More.calls ((rd_T55 x6_2 x45_3).f0) ((rd_T34 l0_1 x34_2).f5) t215 _ A66.out).mono ?_
                     rintro e w' ⟨rfl, ⟨nd, rfl⟩⟩
                     refine ⟨_, rfl, ?_⟩
                     refine hK.out _ _ ⟨(blk_cell BK206.out 0).trans rfl, (blk_cell BK206.out 1).trans rfl, (blk_cell BK204.out 0).trans rfl, (blk_cell BK204.out 1).trans rfl, (blk_cell BK204.out 2).trans rfl, (blk_cell BK204.out 3).trans rfl, (blk_cell BK204.out 4).trans rfl, (blk_cell BK204.out 5).trans rfl, (blk_cell BK204.out 6).trans rfl⟩ (fun hHeld => ?_)
                     clear hK K
                     refine norm_ (a' := ?_) ?_ ?_
                     rotate_left
                     ·show Act.put _ (some 75) _ = _
                      simp only [Act.put, List.setIfInBounds_toArray, List.set_cons_zero, List.set_cons_succ, i64_w, i32_w]
                      rfl
                     refine pure_ (i := 8) (N := some 78) (v := ?_) (a' := ?_) #[true, true, true, true, true, true, true, true, true, false, false, false] rfl rfl (any_of HT_.out (by kernel_rfl)) (fun _ _ _ h => h) (Or.inl ⟨by rfl, ?_⟩) ?_ ?_
                     rotate_left
                     ·intro w'
                      go_simp
                      with_reducible rfl
                     rotate_left
                     ·simp only [Act.put, List.setIfInBounds_toArray, List.set_cons_zero, List.set_cons_succ, i64_w, i32_w]
                      rfl
                     refine one_ (i := 9) (N := some 79) #[true, true, true, true, true, true, true, true, true, true, false, false] rfl rfl (one_of HT_.out (by kernel_rfl)) (by decide) (fun K hK => ?_)
                     refine value_ (w1 := ?_) (v := ?_) (by rfl) rfl ?_ ?_
                     rotate_left 2
                     ·go_simp
                      constructor
                      ·rfl
                      ·rfl
                     refine hK.out _ _ ⟨(blk_cell (blk_alloc BK206.out _) 0).trans rfl, (blk_cell (blk_alloc BK206.out _) 1).trans rfl, (blk_cell (blk_alloc BK204.out _) 0).trans rfl, (blk_cell (blk_alloc BK204.out _) 1).trans rfl, (blk_cell (blk_alloc BK204.out _) 2).trans rfl, (blk_cell (blk_alloc BK204.out _) 3).trans rfl, (blk_cell (blk_alloc BK204.out _) 4).trans rfl, (blk_cell (blk_alloc BK204.out _) 5).trans rfl, (blk_cell (blk_alloc BK204.out _) 6).trans rfl⟩ (fun hHeld => ?_)
                     clear hK K
                     refine norm_ (a' := ?_) ?_ ?_
                     rotate_left
                     ·show Act.put _ (some 79) _ = _
                      simp only [Act.put, List.setIfInBounds_toArray, List.set_cons_zero, List.set_cons_succ, i64_w, i32_w]
                      rfl
                     refine one_ (i := 10) (N := some 80) #[true, true, true, true, true, true, true, true, true, true, true, false] rfl rfl (one_of HT_.out (by kernel_rfl)) (by decide) (fun K hK => ?_)
                     refine Kd.R_append_step k55 (w0 := w) w.heap.size (by rfl) (.tmp 70) (.tmp 79) 56 55 (.agg #[(.int .i64 0), (.int .i64 0)]) 16 rfl Try.underlying56 info55 rfl (by decide) (by omega) u9 x9_3 (⟨t215, (rd_T55 x6_2 x45_3).f1⟩ : S55) [.int .i64 t215, .int .i64 ((rd_T55 x6_2 x45_3).f1)] (fun k_ => some k_ ≠ (.slice (some ad205) x6_2.length co27 : Value).ownBlock ∧ k_ ≠ gb206) (fun _ => False) rfl rfl ?aP (fun _ hk => hk.elim) ?aF ?aO ?aB ?aS ?aL ?_
                     (case aP => exact k55_mkM _ _ _ (⟨t215, (rd_T55 x6_2 x45_3).f1⟩ : S55))
                     (case aB => exact (by with_reducible repeat (first | exact HB.out | apply below_alloc | apply pw_below_drewN | apply below_drew1 | refine below_set ?_ GE196.out | refine below_set ?_ GE199.out | refine below_set ?_ GE204.out | refine below_set ?_ GE206.out)))
                     (case aF => exact (fun k_ hk => ⟨Kd.fresh' (Kd.R_lt (by (with_reducible repeat (first | apply Kd.R_alloc | apply Kd.R_drewN | apply Kd.R_drew)); exact HO_43.out)) k_ hk, Kd.freshB (g := gb206) (by (with_reducible repeat (first | apply blk_drewN | apply blk_drew | apply blk_alloc)); exact BK206.out) k_ hk⟩))
                     (case aO => exact (by (with_reducible repeat (first | apply Kd.R_alloc | apply Kd.R_drewN | apply Kd.R_drew)); exact HO_9.out))
                     (case aS => exact (below_size (by with_reducible repeat (first | exact HB.out | apply below_alloc | apply pw_below_drewN | apply below_drew1 | refine below_set ?_ GE196.out | refine below_set ?_ GE199.out | refine below_set ?_ GE204.out | refine below_set ?_ GE206.out))))
                     (case aL => have := LMc67.out; omega)
                     intro v217 w78 ho hb hg hat
                     rw [← Ny216.out] at ho
                     have n0_ := Aside0.mk (Kd.R_over' (by (with_reducible repeat (first | apply Kd.R_alloc | apply Kd.R_drewN | apply Kd.R_drew)); exact HO_3.out) (Kd.R_typed (by (with_reducible repeat (first | apply Kd.R_alloc | apply Kd.R_drewN | apply Kd.R_drew)); exact HO_9.out)) (by decide) hg)
                     have n1_ := Aside0.mk (Kd.R_after (ok := (fun k_ => k_ ≠ gb206)) (by (with_reducible repeat (first | apply Kd.R_alloc | apply Kd.R_drewN | apply Kd.R_drew)); exact Kd.R_mono HO_43.out (fun _ hk => ⟨hk.2, hk.1⟩)) hg hat)
                     have n2_ := Aside0.mk (blk_grown (g := gb196) (by (with_reducible repeat (first | apply blk_drewN | apply blk_drew | apply blk_alloc)); exact BK196.out) hg (Kd.R_ne HO_9.out BK196.out (by decide)))
                     have n3_ := Aside0.mk (blk_grown (g := gb199) (by (with_reducible repeat (first | apply blk_drewN | apply blk_drew | apply blk_alloc)); exact BK199.out) hg (Kd.R_ne HO_9.out BK199.out (by decide)))
                     have n4_ := Aside0.mk (blk_grown (g := gb204) (by (with_reducible repeat (first | apply blk_drewN | apply blk_drew | apply blk_alloc)); exact BK204.out) hg (Kd.R_ne HO_9.out BK204.out (by decide)))
                     have n5_ := Aside0.mk (blk_grown (g := gb206) (by (with_reducible repeat (first | apply blk_drewN | apply blk_drew | apply blk_alloc)); exact BK206.out) hg (Kd.R_away HO_9.out (fun _ hk => hk.2)))
                     have n6_ := Aside0.mk (hb)
                     have n7_ := Aside0.mk (ho)
                     clear HO_3
                     clear HO_43
                     clear BK196
                     clear BK199
                     clear BK204
                     clear BK206
                     clear HB
                     clear HO_9
                     have HO_3 := n0_
                     have HO_43 := n1_
                     have BK196 := n2_
                     have BK199 := n3_
                     have BK204 := n4_
                     have BK206 := n5_
                     have HB := n6_
                     have HO218 := n7_
                     clear n0_ n1_ n2_ n3_ n4_ n5_ n6_ n7_
                     clear ho hb hg hat
                     refine hK.out _ _ ⟨(blk_cell BK206.out 0).trans rfl, (blk_cell BK206.out 1).trans rfl, (blk_cell BK204.out 0).trans rfl, (blk_cell BK204.out 1).trans rfl, (blk_cell BK204.out 2).trans rfl, (blk_cell BK204.out 3).trans rfl, (blk_cell BK204.out 4).trans rfl, (blk_cell BK204.out 5).trans rfl, (blk_cell BK204.out 6).trans rfl⟩ (fun hHeld => ?_)
                     clear hK K
                     refine norm_ (a' := ?_) ?_ ?_
                     rotate_left
                     ·show Act.put _ (some 80) _ = _
                      simp only [Act.put, List.setIfInBounds_toArray, List.set_cons_zero, List.set_cons_succ, i64_w, i32_w]
                      rfl
                     refine pure_ (i := 11) (N := some 9) (v := ?_) (a' := ?_) #[true, true, true, true, true, true, true, true, true, true, true, true] rfl rfl (any_of HT_.out (by kernel_rfl)) (fun _ _ _ h => h) (Or.inl ⟨by rfl, ?_⟩) ?_ ?_
                     rotate_left
                     ·intro w'
                      go_simp
                      with_reducible rfl
                     rotate_left
                     ·simp only [Act.put, List.setIfInBounds_toArray, List.set_cons_zero, List.set_cons_succ, i64_w, i32_w]
                      rfl
                     refine done_ (done_of HT_.out (by kernel_rfl)) ?_
                     try go_wp2
                     go_roundg k3
                     case measure => have := HK1.out; have := HK2.out; have := HK3.out; omega
                     case rel => exact ⟨(y216), (wrap64 (x45_3 + 1)), (by first | rfl | (simp; done) | (simp [*]; done)), H', ⟨by have := HK1.out; have := HK2.out; have := HK3.out; omega⟩, ⟨by (with_reducible repeat (first | apply Kd.R_alloc | apply Kd.R_drewN | apply Kd.R_drew)); exact HO_3.out⟩, ⟨by (with_reducible repeat (first | apply Kd.R_alloc | apply Kd.R_drewN | apply Kd.R_drew)); exact Kd.R_mono HO218.out (fun _ hk => hk.1)⟩, ⟨by (with_reducible repeat (first | apply Kd.R_alloc | apply Kd.R_drewN | apply Kd.R_drew)); exact Kd.R_mono HO_43.out (fun _ hk => hk.2)⟩, ⟨by (with_reducible repeat (first | apply blk_drewN | apply blk_drew | apply blk_alloc)); exact BK196.out⟩, ⟨by (with_reducible repeat (first | apply blk_drewN | apply blk_drew | apply blk_alloc)); exact BK199.out⟩, ⟨by (with_reducible repeat (first | apply blk_drewN | apply blk_drew | apply blk_alloc)); exact BK204.out⟩, ⟨by with_reducible repeat (first | exact HB.out | apply below_alloc | apply pw_below_drewN | apply below_drew1 | refine below_set ?_ GE196.out | refine below_set ?_ GE199.out | refine below_set ?_ GE204.out | refine below_set ?_ GE206.out)⟩⟩
                    ·rw [if_neg c67] at H
                     exact absurd H (by simp)
                   ·rw [if_neg c65] at H
                    have c65b0 : decide (((rd_T34 l0_1 x34_2).f5) < ((rd_T55 x6_2 x45_3).f1)) = false := decide_eq_false c65
                    clear c65
                    have H' := Aside0.mk H
                    clear H
                    have p205 : 0 ≤ (x45_3 : Int) := of_decide_eq_true (by assumption)
                    have q205 : x45_3 < (x6_2.length : Int) := of_decide_eq_true (by assumption)
                    obtain ⟨ad205, e205, hx205_0, hx205_1⟩ := at_T55 (Kd.R_reads' HO_43.out).2.2 x45_3 p205 q205
                    cases e205
                    replace p205 := eq_true p205
                    replace q205 := eq_true q205
                    go_wp2_with (first | ((with_reducible refine gate_dst (N := 11) rfl ?_); refine box_event ?hg (N := 11) ?hd (cs := #[.int .i64 0, .int .i64 0]) (t := 55) ?hr ?_; (case hd => rfl); (case hg => rfl); (case hr => first | (go_simp; done) | (go_simp; rfl)); intro gb206 hg w79 hbox hb; have n0_ := Aside0.mk (Kd.R_below (by (with_reducible repeat (first | apply Kd.R_alloc | apply Kd.R_drewN | apply Kd.R_drew)); exact HO_3.out) hb); have n1_ := Aside0.mk (Kd.R_below (Kd.R_elderB (by (with_reducible repeat (first | apply Kd.R_alloc | apply Kd.R_drewN | apply Kd.R_drew)); exact HO_9.out) gb206 (Nat.le_of_eq hg.symm)) hb); have n2_ := Aside0.mk (Kd.R_below (Kd.R_elderB (by (with_reducible repeat (first | apply Kd.R_alloc | apply Kd.R_drewN | apply Kd.R_drew)); exact HO_43.out) gb206 (Nat.le_of_eq hg.symm)) hb); have n3_ := Aside0.mk (blk_below (g := gb196) (by (with_reducible repeat (first | apply blk_drewN | apply blk_drew | apply blk_alloc)); exact BK196.out) hb); have n4_ := Aside0.mk (blk_below (g := gb199) (by (with_reducible repeat (first | apply blk_drewN | apply blk_drew | apply blk_alloc)); exact BK199.out) hb); have n5_ := Aside0.mk (blk_below (g := gb204) (by (with_reducible repeat (first | apply blk_drewN | apply blk_drew | apply blk_alloc)); exact BK204.out) hb); have n6_ := Aside0.mk (below_step (by with_reducible repeat (first | exact HB.out | apply below_alloc | apply pw_below_drewN | apply below_drew1 | refine below_set ?_ GE196.out | refine below_set ?_ GE199.out | refine below_set ?_ GE204.out)) hb); have n7_ := Aside0.mk (hbox); have n8_ := Aside0.mk ((by rw [hg]; exact (below_size (by with_reducible repeat (first | exact HB.out | apply below_alloc | apply pw_below_drewN | apply below_drew1 | refine below_set ?_ GE196.out | refine below_set ?_ GE199.out | refine below_set ?_ GE204.out))) : w.heap.size ≤ gb206)); have n9_ := n8_; have n10_ := Aside0.mk ((by rw [hg]; exact Nat.ne_of_lt (blk_lt (g := gb196) (by (with_reducible repeat (first | apply blk_drewN | apply blk_drew | apply blk_alloc)); exact BK196.out)) : gb196 ≠ gb206)); have n11_ := Aside0.mk ((by rw [hg]; exact Nat.ne_of_gt (blk_lt (g := gb196) (by (with_reducible repeat (first | apply blk_drewN | apply blk_drew | apply blk_alloc)); exact BK196.out)) : gb206 ≠ gb196)); have n12_ := Aside0.mk ((by rw [hg]; exact Nat.ne_of_lt (blk_lt (g := gb199) (by (with_reducible repeat (first | apply blk_drewN | apply blk_drew | apply blk_alloc)); exact BK199.out)) : gb199 ≠ gb206)); have n13_ := Aside0.mk ((by rw [hg]; exact Nat.ne_of_gt (blk_lt (g := gb199) (by (with_reducible repeat (first | apply blk_drewN | apply blk_drew | apply blk_alloc)); exact BK199.out)) : gb206 ≠ gb199)); have n14_ := Aside0.mk ((by rw [hg]; exact Nat.ne_of_lt (blk_lt (g := gb204) (by (with_reducible repeat (first | apply blk_drewN | apply blk_drew | apply blk_alloc)); exact BK204.out)) : gb204 ≠ gb206)); have n15_ := Aside0.mk ((by rw [hg]; exact Nat.ne_of_gt (blk_lt (g := gb204) (by (with_reducible repeat (first | apply blk_drewN | apply blk_drew | apply blk_alloc)); exact BK204.out)) : gb206 ≠ gb204)); clear HO_3; clear HO_9; clear HO_43; clear BK196; clear BK199; clear BK204; clear HB; have HO_3 := n0_; have HO_9 := n1_; have HO_43 := n2_; have BK196 := n3_; have BK199 := n4_; have BK204 := n5_; have HB := n6_; have BK206 := n7_; have GW206 := n8_; have GE206 := n9_; have NB196_206 := n10_; have NB206_196 := n11_; have NB199_206 := n12_; have NB206_199 := n13_; have NB204_206 := n14_; have NB206_204 := n15_; clear n0_ n1_ n2_ n3_ n4_ n5_ n6_ n7_ n8_ n9_ n10_ n11_ n12_ n13_ n14_ n15_; clear hb hbox hg; have hnb80 := NB206_196.out; have hnc80 := NB196_206.out; have hnb81 := NB206_199.out; have hnc81 := NB199_206.out; have hnb82 := NB206_204.out; have hnc82 := NB204_206.out; have hcz83_0 : w79.cell? ⟨gb206, 0, none⟩ = some (.int .i64 0) := (blk_cell BK206.out 0).trans rfl; have hcz83_1 : w79.cell? ⟨gb206, 1, none⟩ = some (.int .i64 0) := (blk_cell BK206.out 1).trans rfl; have hfz83_0 := blk_frozen BK206.out 0; have hfz83_1 := blk_frozen BK206.out 1; have hnb84 := NB204_196.out; have hnc84 := NB196_204.out; have hnb85 := NB204_199.out; have hnc85 := NB199_204.out; have hcz86_0 : w79.cell? ⟨gb204, 0, none⟩ = some (.int .i64 ((rd_T34 l0_1 x34_2).f0)) := (blk_cell BK204.out 0).trans rfl; have hcz86_1 : w79.cell? ⟨gb204, 1, none⟩ = some (.int .i64 ((rd_T34 l0_1 x34_2).f1)) := (blk_cell BK204.out 1).trans rfl; have hcz86_2 : w79.cell? ⟨gb204, 2, none⟩ = some (.string ((rd_T34 l0_1 x34_2).f2)) := (blk_cell BK204.out 2).trans rfl; have hcz86_3 : w79.cell? ⟨gb204, 3, none⟩ = some (.string ((rd_T34 l0_1 x34_2).f3)) := (blk_cell BK204.out 3).trans rfl; have hcz86_4 : w79.cell? ⟨gb204, 4, none⟩ = some (.int .i64 ((rd_T34 l0_1 x34_2).f4)) := (blk_cell BK204.out 4).trans rfl; have hcz86_5 : w79.cell? ⟨gb204, 5, none⟩ = some (.int .i64 ((rd_T34 l0_1 x34_2).f5)) := (blk_cell BK204.out 5).trans rfl; have hcz86_6 : w79.cell? ⟨gb204, 6, none⟩ = some (.bool ((rd_T34 l0_1 x34_2).f6)) := (blk_cell BK204.out 6).trans rfl; have hfz86_0 := blk_frozen BK204.out 0; have hfz86_1 := blk_frozen BK204.out 1; have hfz86_2 := blk_frozen BK204.out 2; have hfz86_3 := blk_frozen BK204.out 3; have hfz86_4 := blk_frozen BK204.out 4; have hfz86_5 := blk_frozen BK204.out 5; have hfz86_6 := blk_frozen BK204.out 6))
                    go_roundg k3
                    case measure => have := HK1.out; have := HK2.out; have := HK3.out; omega
                    case rel => exact ⟨(x9_3), (wrap64 (x45_3 + 1)), (by first | rfl | (simp; done) | (simp [*]; done)), H', ⟨by have := HK1.out; have := HK2.out; have := HK3.out; omega⟩, ⟨by (with_reducible repeat (first | apply Kd.R_alloc | apply Kd.R_drewN | apply Kd.R_drew)); exact Kd.R_mono (Kd.R_far (p := ⟨gb206, 1, none⟩) (Kd.R_far (p := ⟨gb206, 0, none⟩) (Kd.R_types HO_3.out BK206.out (by decide)) (fun _ hk => hk.2) (.int .i64 ((rd_T55 x6_2 x45_3).f0))) (fun _ hk => hk.2) (.int .i64 ((rd_T55 x6_2 x45_3).f1))) (fun _ hk => trivial)⟩, ⟨by (with_reducible repeat (first | apply Kd.R_alloc | apply Kd.R_drewN | apply Kd.R_drew)); exact Kd.R_mono (Kd.R_far (p := ⟨gb206, 1, none⟩) (Kd.R_far (p := ⟨gb206, 0, none⟩) (Kd.R_mono HO_9.out (fun k_ hk => (⟨hk, hk.2⟩ : _ ∧ k_ ≠ gb206))) (fun _ hk => hk.2) (.int .i64 ((rd_T55 x6_2 x45_3).f0))) (fun _ hk => hk.2) (.int .i64 ((rd_T55 x6_2 x45_3).f1))) (fun _ hk => hk.1.1)⟩, ⟨by (with_reducible repeat (first | apply Kd.R_alloc | apply Kd.R_drewN | apply Kd.R_drew)); exact Kd.R_mono (Kd.R_far (p := ⟨gb206, 1, none⟩) (Kd.R_far (p := ⟨gb206, 0, none⟩) (Kd.R_mono HO_43.out (fun k_ hk => (⟨hk, hk.2⟩ : _ ∧ k_ ≠ gb206))) (fun _ hk => hk.2) (.int .i64 ((rd_T55 x6_2 x45_3).f0))) (fun _ hk => hk.2) (.int .i64 ((rd_T55 x6_2 x45_3).f1))) (fun _ hk => hk.1.1)⟩, ⟨by (with_reducible repeat (first | apply blk_drewN | apply blk_drew | apply blk_alloc)); refine blk_far ?_ NB196_206.out _; (with_reducible repeat (first | apply blk_drewN | apply blk_drew | apply blk_alloc)); refine blk_far ?_ NB196_206.out _; (with_reducible repeat (first | apply blk_drewN | apply blk_drew | apply blk_alloc)); exact BK196.out⟩, ⟨by (with_reducible repeat (first | apply blk_drewN | apply blk_drew | apply blk_alloc)); refine blk_far ?_ NB199_206.out _; (with_reducible repeat (first | apply blk_drewN | apply blk_drew | apply blk_alloc)); refine blk_far ?_ NB199_206.out _; (with_reducible repeat (first | apply blk_drewN | apply blk_drew | apply blk_alloc)); exact BK199.out⟩, ⟨by (with_reducible repeat (first | apply blk_drewN | apply blk_drew | apply blk_alloc)); refine blk_far ?_ NB204_206.out _; (with_reducible repeat (first | apply blk_drewN | apply blk_drew | apply blk_alloc)); refine blk_far ?_ NB204_206.out _; (with_reducible repeat (first | apply blk_drewN | apply blk_drew | apply blk_alloc)); exact BK204.out⟩, ⟨by with_reducible repeat (first | exact HB.out | apply below_alloc | apply pw_below_drewN | apply below_drew1 | refine below_set ?_ GE196.out | refine below_set ?_ GE199.out | refine below_set ?_ GE204.out | refine below_set ?_ GE206.out)⟩⟩
                 ·rw [if_neg c30] at H
                  exact absurd H (by simp)
                ·rw [if_neg c29] at H
                 exact absurd H (by simp)
               ·rw [if_neg c28] at H
                have c28b0 : decide (x45_3 < (x6_2.length : Int)) = false := decide_eq_false c28
                clear c28
                have H' := Aside0.mk H
                clear H
                go_wp2
                go_roundg k3
                case measure => have := HK1.out; have := HK2.out; have := HK3.out; omega
                case rel => exact ⟨(x9_3), (wrap64 (x34_2 + 1)), (by first | rfl | (simp; done) | (simp [*]; done)), H', ⟨by have := HK1.out; have := HK2.out; have := HK3.out; omega⟩, ⟨by (with_reducible repeat (first | apply Kd.R_alloc | apply Kd.R_drewN | apply Kd.R_drew)); exact HO_3.out⟩, ⟨by (with_reducible repeat (first | apply Kd.R_alloc | apply Kd.R_drewN | apply Kd.R_drew)); exact Kd.R_mono HO_9.out (fun _ hk => trivial)⟩, ⟨by (with_reducible repeat (first | apply blk_drewN | apply blk_drew | apply blk_alloc)); exact BK196.out⟩, ⟨by (with_reducible repeat (first | apply blk_drewN | apply blk_drew | apply blk_alloc)); exact BK199.out⟩, ⟨by with_reducible repeat (first | exact HB.out | apply below_alloc | apply pw_below_drewN | apply below_drew1 | refine below_set ?_ GE196.out | refine below_set ?_ GE199.out | refine below_set ?_ GE204.out)⟩⟩
            ·rw [if_neg c20] at H
             have c20b0 : (((rd_T34 l0_1 x34_2).f1) == ((rd_T34 l0_1 x21_1).f0)) = false := beq_eq_false_iff_ne.mpr c20
             have c20b1 : (((rd_T34 l0_1 x34_2).f1) != ((rd_T34 l0_1 x21_1).f0)) = true := bne_iff_ne.mpr c20
             have H' := Aside0.mk H
             clear H
             have p203 : 0 ≤ (x34_2 : Int) := of_decide_eq_true (by assumption)
             have q203 : x34_2 < (l0_1.length : Int) := of_decide_eq_true (by assumption)
             obtain ⟨ad203, e203, hx203_0, hx203_1, hx203_2, hx203_3, hx203_4, hx203_5, hx203_6⟩ := at_T34 HR0_1.out x34_2 p203 q203
             obtain rfl : ad198 = ad203 := (by injection e203)
             replace hx203_0 := (HB.out.cell (World.block_lt_of_cell? w _ hx203_0)).trans hx203_0
             replace hx203_1 := (HB.out.cell (World.block_lt_of_cell? w _ hx203_1)).trans hx203_1
             replace hx203_2 := (HB.out.cell (World.block_lt_of_cell? w _ hx203_2)).trans hx203_2
             replace hx203_3 := (HB.out.cell (World.block_lt_of_cell? w _ hx203_3)).trans hx203_3
             replace hx203_4 := (HB.out.cell (World.block_lt_of_cell? w _ hx203_4)).trans hx203_4
             replace hx203_5 := (HB.out.cell (World.block_lt_of_cell? w _ hx203_5)).trans hx203_5
             replace hx203_6 := (HB.out.cell (World.block_lt_of_cell? w _ hx203_6)).trans hx203_6
             replace p203 := eq_true p203
             replace q203 := eq_true q203
             go_wp2_with (first | ((with_reducible refine gate_dst (N := 8) rfl ?_); refine box_event ?hg (N := 8) ?hd (cs := #[.int .i64 0, .int .i64 0, .string ⟨#[]⟩, .string ⟨#[]⟩, .int .i64 0, .int .i64 0, .bool false]) (t := 34) ?hr ?_; (case hd => rfl); (case hg => rfl); (case hr => first | (go_simp; done) | (go_simp; rfl)); intro gb204 hg w87 hbox hb; have n0_ := Aside0.mk (Kd.R_below (by (with_reducible repeat (first | apply Kd.R_alloc | apply Kd.R_drewN | apply Kd.R_drew)); exact HO_3.out) hb); have n1_ := Aside0.mk (Kd.R_below (by (with_reducible repeat (first | apply Kd.R_alloc | apply Kd.R_drewN | apply Kd.R_drew)); exact HO_6.out) hb); have n2_ := Aside0.mk (blk_below (g := gb196) (by (with_reducible repeat (first | apply blk_drewN | apply blk_drew | apply blk_alloc)); exact BK196.out) hb); have n3_ := Aside0.mk (blk_below (g := gb199) (by (with_reducible repeat (first | apply blk_drewN | apply blk_drew | apply blk_alloc)); exact BK199.out) hb); have n4_ := Aside0.mk (below_step (by with_reducible repeat (first | exact HB.out | apply below_alloc | apply pw_below_drewN | apply below_drew1 | refine below_set ?_ GE196.out | refine below_set ?_ GE199.out)) hb); have n5_ := Aside0.mk (hbox); have n6_ := Aside0.mk ((by rw [hg]; exact (below_size (by with_reducible repeat (first | exact HB.out | apply below_alloc | apply pw_below_drewN | apply below_drew1 | refine below_set ?_ GE196.out | refine below_set ?_ GE199.out))) : w.heap.size ≤ gb204)); have n7_ := n6_; have n8_ := Aside0.mk ((by rw [hg]; exact Nat.ne_of_lt (blk_lt (g := gb196) (by (with_reducible repeat (first | apply blk_drewN | apply blk_drew | apply blk_alloc)); exact BK196.out)) : gb196 ≠ gb204)); have n9_ := Aside0.mk ((by rw [hg]; exact Nat.ne_of_gt (blk_lt (g := gb196) (by (with_reducible repeat (first | apply blk_drewN | apply blk_drew | apply blk_alloc)); exact BK196.out)) : gb204 ≠ gb196)); have n10_ := Aside0.mk ((by rw [hg]; exact Nat.ne_of_lt (blk_lt (g := gb199) (by (with_reducible repeat (first | apply blk_drewN | apply blk_drew | apply blk_alloc)); exact BK199.out)) : gb199 ≠ gb204)); have n11_ := Aside0.mk ((by rw [hg]; exact Nat.ne_of_gt (blk_lt (g := gb199) (by (with_reducible repeat (first | apply blk_drewN | apply blk_drew | apply blk_alloc)); exact BK199.out)) : gb204 ≠ gb199)); clear HO_3; clear HO_6; clear BK196; clear BK199; clear HB; have HO_3 := n0_; have HO_6 := n1_; have BK196 := n2_; have BK199 := n3_; have HB := n4_; have BK204 := n5_; have GW204 := n6_; have GE204 := n7_; have NB196_204 := n8_; have NB204_196 := n9_; have NB199_204 := n10_; have NB204_199 := n11_; clear n0_ n1_ n2_ n3_ n4_ n5_ n6_ n7_ n8_ n9_ n10_ n11_; clear hb hbox hg; have hnb88 := NB204_196.out; have hnc88 := NB196_204.out; have hnb89 := NB204_199.out; have hnc89 := NB199_204.out; have hcz90_0 : w87.cell? ⟨gb204, 0, none⟩ = some (.int .i64 0) := (blk_cell BK204.out 0).trans rfl; have hcz90_1 : w87.cell? ⟨gb204, 1, none⟩ = some (.int .i64 0) := (blk_cell BK204.out 1).trans rfl; have hcz90_2 : w87.cell? ⟨gb204, 2, none⟩ = some (.string ⟨#[]⟩) := (blk_cell BK204.out 2).trans rfl; have hcz90_3 : w87.cell? ⟨gb204, 3, none⟩ = some (.string ⟨#[]⟩) := (blk_cell BK204.out 3).trans rfl; have hcz90_4 : w87.cell? ⟨gb204, 4, none⟩ = some (.int .i64 0) := (blk_cell BK204.out 4).trans rfl; have hcz90_5 : w87.cell? ⟨gb204, 5, none⟩ = some (.int .i64 0) := (blk_cell BK204.out 5).trans rfl; have hcz90_6 : w87.cell? ⟨gb204, 6, none⟩ = some (.bool false) := (blk_cell BK204.out 6).trans rfl; have hfz90_0 := blk_frozen BK204.out 0; have hfz90_1 := blk_frozen BK204.out 1; have hfz90_2 := blk_frozen BK204.out 2; have hfz90_3 := blk_frozen BK204.out 3; have hfz90_4 := blk_frozen BK204.out 4; have hfz90_5 := blk_frozen BK204.out 5; have hfz90_6 := blk_frozen BK204.out 6; have hnb91 := NB199_196.out; have hnc91 := NB196_199.out; have hcz92_0 : w87.cell? ⟨gb199, 0, none⟩ = some (.int .i64 ((rd_T34 l0_1 x21_1).f0)) := (blk_cell BK199.out 0).trans rfl; have hcz92_1 : w87.cell? ⟨gb199, 1, none⟩ = some (.int .i64 ((rd_T34 l0_1 x21_1).f1)) := (blk_cell BK199.out 1).trans rfl; have hcz92_2 : w87.cell? ⟨gb199, 2, none⟩ = some (.string ((rd_T34 l0_1 x21_1).f2)) := (blk_cell BK199.out 2).trans rfl; have hcz92_3 : w87.cell? ⟨gb199, 3, none⟩ = some (.string ((rd_T34 l0_1 x21_1).f3)) := (blk_cell BK199.out 3).trans rfl; have hcz92_4 : w87.cell? ⟨gb199, 4, none⟩ = some (.int .i64 ((rd_T34 l0_1 x21_1).f4)) := (blk_cell BK199.out 4).trans rfl; have hcz92_5 : w87.cell? ⟨gb199, 5, none⟩ = some (.int .i64 ((rd_T34 l0_1 x21_1).f5)) := (blk_cell BK199.out 5).trans rfl; have hcz92_6 : w87.cell? ⟨gb199, 6, none⟩ = some (.bool ((rd_T34 l0_1 x21_1).f6)) := (blk_cell BK199.out 6).trans rfl; have hfz92_0 := blk_frozen BK199.out 0; have hfz92_1 := blk_frozen BK199.out 1; have hfz92_2 := blk_frozen BK199.out 2; have hfz92_3 := blk_frozen BK199.out 3; have hfz92_4 := blk_frozen BK199.out 4; have hfz92_5 := blk_frozen BK199.out 5; have hfz92_6 := blk_frozen BK199.out 6))
             go_roundg k2
             case measure => have := HK1.out; have := HK2.out; omega
             case rel => exact ⟨(x6_2), (wrap64 (x34_2 + 1)), (by first | rfl | (simp; done) | (simp [*]; done)), H', ⟨by have := HK1.out; have := HK2.out; omega⟩, ⟨by (with_reducible repeat (first | apply Kd.R_alloc | apply Kd.R_drewN | apply Kd.R_drew)); exact Kd.R_mono (Kd.R_far (p := ⟨gb204, 6, none⟩) (Kd.R_far (p := ⟨gb204, 5, none⟩) (Kd.R_far (p := ⟨gb204, 4, none⟩) (Kd.R_far (p := ⟨gb204, 3, none⟩) (Kd.R_far (p := ⟨gb204, 2, none⟩) (Kd.R_far (p := ⟨gb204, 1, none⟩) (Kd.R_far (p := ⟨gb204, 0, none⟩) (Kd.R_types HO_3.out BK204.out (by decide)) (fun _ hk => hk.2) (.int .i64 ((rd_T34 l0_1 x34_2).f0))) (fun _ hk => hk.2) (.int .i64 ((rd_T34 l0_1 x34_2).f1))) (fun _ hk => hk.2) (.string ((rd_T34 l0_1 x34_2).f2))) (fun _ hk => hk.2) (.string ((rd_T34 l0_1 x34_2).f3))) (fun _ hk => hk.2) (.int .i64 ((rd_T34 l0_1 x34_2).f4))) (fun _ hk => hk.2) (.int .i64 ((rd_T34 l0_1 x34_2).f5))) (fun _ hk => hk.2) (.bool ((rd_T34 l0_1 x34_2).f6))) (fun _ hk => trivial)⟩, ⟨by (with_reducible repeat (first | apply Kd.R_alloc | apply Kd.R_drewN | apply Kd.R_drew)); exact Kd.R_mono (Kd.R_far (p := ⟨gb204, 6, none⟩) (Kd.R_far (p := ⟨gb204, 5, none⟩) (Kd.R_far (p := ⟨gb204, 4, none⟩) (Kd.R_far (p := ⟨gb204, 3, none⟩) (Kd.R_far (p := ⟨gb204, 2, none⟩) (Kd.R_far (p := ⟨gb204, 1, none⟩) (Kd.R_far (p := ⟨gb204, 0, none⟩) (Kd.R_types HO_6.out BK204.out (by decide)) (fun _ hk => hk.2) (.int .i64 ((rd_T34 l0_1 x34_2).f0))) (fun _ hk => hk.2) (.int .i64 ((rd_T34 l0_1 x34_2).f1))) (fun _ hk => hk.2) (.string ((rd_T34 l0_1 x34_2).f2))) (fun _ hk => hk.2) (.string ((rd_T34 l0_1 x34_2).f3))) (fun _ hk => hk.2) (.int .i64 ((rd_T34 l0_1 x34_2).f4))) (fun _ hk => hk.2) (.int .i64 ((rd_T34 l0_1 x34_2).f5))) (fun _ hk => hk.2) (.bool ((rd_T34 l0_1 x34_2).f6))) (fun _ hk => trivial)⟩, ⟨by (with_reducible repeat (first | apply blk_drewN | apply blk_drew | apply blk_alloc)); refine blk_far ?_ NB196_204.out _; (with_reducible repeat (first | apply blk_drewN | apply blk_drew | apply blk_alloc)); refine blk_far ?_ NB196_204.out _; (with_reducible repeat (first | apply blk_drewN | apply blk_drew | apply blk_alloc)); refine blk_far ?_ NB196_204.out _; (with_reducible repeat (first | apply blk_drewN | apply blk_drew | apply blk_alloc)); refine blk_far ?_ NB196_204.out _; (with_reducible repeat (first | apply blk_drewN | apply blk_drew | apply blk_alloc)); refine blk_far ?_ NB196_204.out _; (with_reducible repeat (first | apply blk_drewN | apply blk_drew | apply blk_alloc)); refine blk_far ?_ NB196_204.out _; (with_reducible repeat (first | apply blk_drewN | apply blk_drew | apply blk_alloc)); refine blk_far ?_ NB196_204.out _; (with_reducible repeat (first | apply blk_drewN | apply blk_drew | apply blk_alloc)); exact BK196.out⟩, ⟨by (with_reducible repeat (first | apply blk_drewN | apply blk_drew | apply blk_alloc)); refine blk_far ?_ NB199_204.out _; (with_reducible repeat (first | apply blk_drewN | apply blk_drew | apply blk_alloc)); refine blk_far ?_ NB199_204.out _; (with_reducible repeat (first | apply blk_drewN | apply blk_drew | apply blk_alloc)); refine blk_far ?_ NB199_204.out _; (with_reducible repeat (first | apply blk_drewN | apply blk_drew | apply blk_alloc)); refine blk_far ?_ NB199_204.out _; (with_reducible repeat (first | apply blk_drewN | apply blk_drew | apply blk_alloc)); refine blk_far ?_ NB199_204.out _; (with_reducible repeat (first | apply blk_drewN | apply blk_drew | apply blk_alloc)); refine blk_far ?_ NB199_204.out _; (with_reducible repeat (first | apply blk_drewN | apply blk_drew | apply blk_alloc)); refine blk_far ?_ NB199_204.out _; (with_reducible repeat (first | apply blk_drewN | apply blk_drew | apply blk_alloc)); exact BK199.out⟩, ⟨by with_reducible repeat (first | exact HB.out | apply below_alloc | apply pw_below_drewN | apply below_drew1 | refine below_set ?_ GE196.out | refine below_set ?_ GE199.out | refine below_set ?_ GE204.out)⟩⟩
           ·rw [if_neg c19] at H
            exact absurd H (by simp)
          ·rw [if_neg c18] at H
           exact absurd H (by simp)
         ·rw [if_neg c17] at H
          have c17b0 : decide (x34_2 < (l0_1.length : Int)) = false := decide_eq_false c17
          clear c17
          have H' := Aside0.mk H
          clear H
          obtain ⟨Ao93, co93, eo93⟩ := Kd.R_slice HO_6.out
          subst eo93
          go_wp2
          go_loopg [12, 86] k2 (fun kq v12 v86 w' => ∃ (x12_3 : Int) (x86_3 : Int), v12 = .int .i64 x12_3 ∧ v86 = .int .i64 x86_3 ∧ Aside0 (spec_SelfTimes.l3 kq x3_1 x12_3 l0_1 (l0_1.length : Int) x21_1 x6_2 (x6_2.length : Int) x86_3 a0_0 l0_1 = some r) ∧ Aside0 (kq ≤ k2) ∧ Aside0 (Kd.R (Kd.int .i64) 3 w' w.heap.size (fun _ => True) u3 x3_1) ∧ Aside0 (Kd.R k55 55 w' w.heap.size (fun _ => True) (.slice Ao93 x6_2.length co93) x6_2) ∧ Aside0 (w'.heap[gb196]? = some (.cells #[.int .i64 a0_0, (.slice (some ad198) l0_1.length c0_1)] 25 (0, 0))) ∧ Aside0 (w'.heap[gb199]? = some (.cells #[.int .i64 ((rd_T34 l0_1 x21_1).f0), .int .i64 ((rd_T34 l0_1 x21_1).f1), .string ((rd_T34 l0_1 x21_1).f2), .string ((rd_T34 l0_1 x21_1).f3), .int .i64 ((rd_T34 l0_1 x21_1).f4), .int .i64 ((rd_T34 l0_1 x21_1).f5), .bool ((rd_T34 l0_1 x21_1).f6)] 34 (0, 0))) ∧ Aside0 (Below w.heap.size w w'))
          case atStart => exact ⟨(0), (0), (by first | rfl | (simp; done) | (simp [*]; done)), (by first | rfl | (simp; done) | (simp [*]; done)), H', ⟨Nat.le_refl _⟩, ⟨by (with_reducible repeat (first | apply Kd.R_alloc | apply Kd.R_drewN | apply Kd.R_drew)); exact HO_3.out⟩, ⟨by (with_reducible repeat (first | apply Kd.R_alloc | apply Kd.R_drewN | apply Kd.R_drew)); exact HO_6.out⟩, ⟨by (with_reducible repeat (first | apply blk_drewN | apply blk_drew | apply blk_alloc)); exact BK196.out⟩, ⟨by (with_reducible repeat (first | apply blk_drewN | apply blk_drew | apply blk_alloc)); exact BK199.out⟩, ⟨by with_reducible repeat (first | exact HB.out | apply below_alloc | apply pw_below_drewN | apply below_drew1 | refine below_set ?_ GE196.out | refine below_set ?_ GE199.out)⟩⟩
          case round =>
           clear H'
           obtain ⟨x12_3, x86_3, rfl, rfl, HA, HK3, HO_3, HO_84, BK196, BK199, HB⟩ := hrel
           cases gk with
           | zero => exact absurd HA.out (by simp [spec_SelfTimes.l3])
           | succ k3 =>
            have H := HA.out
            clear HA
            simp only [spec_SelfTimes.l3] at H
            by_cases c94 : x86_3 < (x6_2.length : Int)
            ·rw [if_pos c94] at H
             have c94b0 : decide (x86_3 < (x6_2.length : Int)) = true := decide_eq_true c94
             clear c94
             by_cases c95 : 0 ≤ x86_3
             ·rw [if_pos c95] at H
              have c95b0 : decide (0 ≤ x86_3) = true := decide_eq_true c95
              clear c95
              by_cases c96 : x86_3 < (x6_2.length : Int)
              ·rw [if_pos c96] at H
               have c96b0 : decide (x86_3 < (x6_2.length : Int)) = true := decide_eq_true c96
               clear c96
               by_cases c97 : ((rd_T55 x6_2 x86_3).f1) > ((rd_T55 x6_2 x86_3).f0)
               ·rw [if_pos c97] at H
                have c97b0 : decide (((rd_T55 x6_2 x86_3).f0) < ((rd_T55 x6_2 x86_3).f1)) = true := decide_eq_true c97
                clear c97
                have H' := Aside0.mk H
                clear H
                have p219 : 0 ≤ (x86_3 : Int) := of_decide_eq_true (by assumption)
                have q219 : x86_3 < (x6_2.length : Int) := of_decide_eq_true (by assumption)
                obtain ⟨ad219, e219, hx219_0, hx219_1⟩ := at_T55 (Kd.R_reads' HO_84.out).2.2 x86_3 p219 q219
                cases e219
                replace p219 := eq_true p219
                replace q219 := eq_true q219
                go_wp2_with (first | ((with_reducible refine gate_dst (N := 14) rfl ?_); refine box_event ?hg (N := 14) ?hd (cs := #[.int .i64 0, .int .i64 0]) (t := 55) ?hr ?_; (case hd => rfl); (case hg => rfl); (case hr => first | (go_simp; done) | (go_simp; rfl)); intro gb220 hg w98 hbox hb; have n0_ := Aside0.mk (Kd.R_below (by (with_reducible repeat (first | apply Kd.R_alloc | apply Kd.R_drewN | apply Kd.R_drew)); exact HO_3.out) hb); have n1_ := Aside0.mk (Kd.R_below (Kd.R_elderB (by (with_reducible repeat (first | apply Kd.R_alloc | apply Kd.R_drewN | apply Kd.R_drew)); exact HO_84.out) gb220 (Nat.le_of_eq hg.symm)) hb); have n2_ := Aside0.mk (blk_below (g := gb196) (by (with_reducible repeat (first | apply blk_drewN | apply blk_drew | apply blk_alloc)); exact BK196.out) hb); have n3_ := Aside0.mk (blk_below (g := gb199) (by (with_reducible repeat (first | apply blk_drewN | apply blk_drew | apply blk_alloc)); exact BK199.out) hb); have n4_ := Aside0.mk (below_step (by with_reducible repeat (first | exact HB.out | apply below_alloc | apply pw_below_drewN | apply below_drew1 | refine below_set ?_ GE196.out | refine below_set ?_ GE199.out)) hb); have n5_ := Aside0.mk (hbox); have n6_ := Aside0.mk ((by rw [hg]; exact (below_size (by with_reducible repeat (first | exact HB.out | apply below_alloc | apply pw_below_drewN | apply below_drew1 | refine below_set ?_ GE196.out | refine below_set ?_ GE199.out))) : w.heap.size ≤ gb220)); have n7_ := n6_; have n8_ := Aside0.mk ((by rw [hg]; exact Nat.ne_of_lt (blk_lt (g := gb196) (by (with_reducible repeat (first | apply blk_drewN | apply blk_drew | apply blk_alloc)); exact BK196.out)) : gb196 ≠ gb220)); have n9_ := Aside0.mk ((by rw [hg]; exact Nat.ne_of_gt (blk_lt (g := gb196) (by (with_reducible repeat (first | apply blk_drewN | apply blk_drew | apply blk_alloc)); exact BK196.out)) : gb220 ≠ gb196)); have n10_ := Aside0.mk ((by rw [hg]; exact Nat.ne_of_lt (blk_lt (g := gb199) (by (with_reducible repeat (first | apply blk_drewN | apply blk_drew | apply blk_alloc)); exact BK199.out)) : gb199 ≠ gb220)); have n11_ := Aside0.mk ((by rw [hg]; exact Nat.ne_of_gt (blk_lt (g := gb199) (by (with_reducible repeat (first | apply blk_drewN | apply blk_drew | apply blk_alloc)); exact BK199.out)) : gb220 ≠ gb199)); clear HO_3; clear HO_84; clear BK196; clear BK199; clear HB; have HO_3 := n0_; have HO_84 := n1_; have BK196 := n2_; have BK199 := n3_; have HB := n4_; have BK220 := n5_; have GW220 := n6_; have GE220 := n7_; have NB196_220 := n8_; have NB220_196 := n9_; have NB199_220 := n10_; have NB220_199 := n11_; clear n0_ n1_ n2_ n3_ n4_ n5_ n6_ n7_ n8_ n9_ n10_ n11_; clear hb hbox hg; have hnb99 := NB220_196.out; have hnc99 := NB196_220.out; have hnb100 := NB220_199.out; have hnc100 := NB199_220.out; have hcz101_0 : w98.cell? ⟨gb220, 0, none⟩ = some (.int .i64 0) := (blk_cell BK220.out 0).trans rfl; have hcz101_1 : w98.cell? ⟨gb220, 1, none⟩ = some (.int .i64 0) := (blk_cell BK220.out 1).trans rfl; have hfz101_0 := blk_frozen BK220.out 0; have hfz101_1 := blk_frozen BK220.out 1))
                go_roundg k3
                case measure => have := HK1.out; have := HK2.out; have := HK3.out; omega
                case rel => exact ⟨(wrap64 (x12_3 + (wrap64 (((rd_T55 x6_2 x86_3).f1) - ((rd_T55 x6_2 x86_3).f0))))), (wrap64 (x86_3 + 1)), (by first | rfl | (simp; done) | (simp [*]; done)), (by first | rfl | (simp; done) | (simp [*]; done)), H', ⟨by have := HK1.out; have := HK2.out; have := HK3.out; omega⟩, ⟨by (with_reducible repeat (first | apply Kd.R_alloc | apply Kd.R_drewN | apply Kd.R_drew)); exact Kd.R_mono (Kd.R_far (p := ⟨gb220, 1, none⟩) (Kd.R_far (p := ⟨gb220, 0, none⟩) (Kd.R_types HO_3.out BK220.out (by decide)) (fun _ hk => hk.2) (.int .i64 ((rd_T55 x6_2 x86_3).f0))) (fun _ hk => hk.2) (.int .i64 ((rd_T55 x6_2 x86_3).f1))) (fun _ hk => trivial)⟩, ⟨by (with_reducible repeat (first | apply Kd.R_alloc | apply Kd.R_drewN | apply Kd.R_drew)); exact Kd.R_mono (Kd.R_far (p := ⟨gb220, 1, none⟩) (Kd.R_far (p := ⟨gb220, 0, none⟩) (Kd.R_mono HO_84.out (fun k_ hk => (⟨hk, hk.2⟩ : _ ∧ k_ ≠ gb220))) (fun _ hk => hk.2) (.int .i64 ((rd_T55 x6_2 x86_3).f0))) (fun _ hk => hk.2) (.int .i64 ((rd_T55 x6_2 x86_3).f1))) (fun _ hk => trivial)⟩, ⟨by (with_reducible repeat (first | apply blk_drewN | apply blk_drew | apply blk_alloc)); refine blk_far ?_ NB196_220.out _; (with_reducible repeat (first | apply blk_drewN | apply blk_drew | apply blk_alloc)); refine blk_far ?_ NB196_220.out _; (with_reducible repeat (first | apply blk_drewN | apply blk_drew | apply blk_alloc)); exact BK196.out⟩, ⟨by (with_reducible repeat (first | apply blk_drewN | apply blk_drew | apply blk_alloc)); refine blk_far ?_ NB199_220.out _; (with_reducible repeat (first | apply blk_drewN | apply blk_drew | apply blk_alloc)); refine blk_far ?_ NB199_220.out _; (with_reducible repeat (first | apply blk_drewN | apply blk_drew | apply blk_alloc)); exact BK199.out⟩, ⟨by with_reducible repeat (first | exact HB.out | apply below_alloc | apply pw_below_drewN | apply below_drew1 | refine below_set ?_ GE196.out | refine below_set ?_ GE199.out | refine below_set ?_ GE220.out)⟩⟩
               ·rw [if_neg c97] at H
                have c97b0 : decide (((rd_T55 x6_2 x86_3).f0) < ((rd_T55 x6_2 x86_3).f1)) = false := decide_eq_false c97
                clear c97
                have H' := Aside0.mk H
                clear H
                have p219 : 0 ≤ (x86_3 : Int) := of_decide_eq_true (by assumption)
                have q219 : x86_3 < (x6_2.length : Int) := of_decide_eq_true (by assumption)
                obtain ⟨ad219, e219, hx219_0, hx219_1⟩ := at_T55 (Kd.R_reads' HO_84.out).2.2 x86_3 p219 q219
                cases e219
                replace p219 := eq_true p219
                replace q219 := eq_true q219
                go_wp2_with (first | ((with_reducible refine gate_dst (N := 14) rfl ?_); refine box_event ?hg (N := 14) ?hd (cs := #[.int .i64 0, .int .i64 0]) (t := 55) ?hr ?_; (case hd => rfl); (case hg => rfl); (case hr => first | (go_simp; done) | (go_simp; rfl)); intro gb220 hg w102 hbox hb; have n0_ := Aside0.mk (Kd.R_below (by (with_reducible repeat (first | apply Kd.R_alloc | apply Kd.R_drewN | apply Kd.R_drew)); exact HO_3.out) hb); have n1_ := Aside0.mk (Kd.R_below (Kd.R_elderB (by (with_reducible repeat (first | apply Kd.R_alloc | apply Kd.R_drewN | apply Kd.R_drew)); exact HO_84.out) gb220 (Nat.le_of_eq hg.symm)) hb); have n2_ := Aside0.mk (blk_below (g := gb196) (by (with_reducible repeat (first | apply blk_drewN | apply blk_drew | apply blk_alloc)); exact BK196.out) hb); have n3_ := Aside0.mk (blk_below (g := gb199) (by (with_reducible repeat (first | apply blk_drewN | apply blk_drew | apply blk_alloc)); exact BK199.out) hb); have n4_ := Aside0.mk (below_step (by with_reducible repeat (first | exact HB.out | apply below_alloc | apply pw_below_drewN | apply below_drew1 | refine below_set ?_ GE196.out | refine below_set ?_ GE199.out)) hb); have n5_ := Aside0.mk (hbox); have n6_ := Aside0.mk ((by rw [hg]; exact (below_size (by with_reducible repeat (first | exact HB.out | apply below_alloc | apply pw_below_drewN | apply below_drew1 | refine below_set ?_ GE196.out | refine below_set ?_ GE199.out))) : w.heap.size ≤ gb220)); have n7_ := n6_; have n8_ := Aside0.mk ((by rw [hg]; exact Nat.ne_of_lt (blk_lt (g := gb196) (by (with_reducible repeat (first | apply blk_drewN | apply blk_drew | apply blk_alloc)); exact BK196.out)) : gb196 ≠ gb220)); have n9_ := Aside0.mk ((by rw [hg]; exact Nat.ne_of_gt (blk_lt (g := gb196) (by (with_reducible repeat (first | apply blk_drewN | apply blk_drew | apply blk_alloc)); exact BK196.out)) : gb220 ≠ gb196)); have n10_ := Aside0.mk ((by rw [hg]; exact Nat.ne_of_lt (blk_lt (g := gb199) (by (with_reducible repeat (first | apply blk_drewN | apply blk_drew | apply blk_alloc)); exact BK199.out)) : gb199 ≠ gb220)); have n11_ := Aside0.mk ((by rw [hg]; exact Nat.ne_of_gt (blk_lt (g := gb199) (by (with_reducible repeat (first | apply blk_drewN | apply blk_drew | apply blk_alloc)); exact BK199.out)) : gb220 ≠ gb199)); clear HO_3; clear HO_84; clear BK196; clear BK199; clear HB; have HO_3 := n0_; have HO_84 := n1_; have BK196 := n2_; have BK199 := n3_; have HB := n4_; have BK220 := n5_; have GW220 := n6_; have GE220 := n7_; have NB196_220 := n8_; have NB220_196 := n9_; have NB199_220 := n10_; have NB220_199 := n11_; clear n0_ n1_ n2_ n3_ n4_ n5_ n6_ n7_ n8_ n9_ n10_ n11_; clear hb hbox hg; have hnb103 := NB220_196.out; have hnc103 := NB196_220.out; have hnb104 := NB220_199.out; have hnc104 := NB199_220.out; have hcz105_0 : w102.cell? ⟨gb220, 0, none⟩ = some (.int .i64 0) := (blk_cell BK220.out 0).trans rfl; have hcz105_1 : w102.cell? ⟨gb220, 1, none⟩ = some (.int .i64 0) := (blk_cell BK220.out 1).trans rfl; have hfz105_0 := blk_frozen BK220.out 0; have hfz105_1 := blk_frozen BK220.out 1))
                go_roundg k3
                case measure => have := HK1.out; have := HK2.out; have := HK3.out; omega
                case rel => exact ⟨(x12_3), (wrap64 (x86_3 + 1)), (by first | rfl | (simp; done) | (simp [*]; done)), (by first | rfl | (simp; done) | (simp [*]; done)), H', ⟨by have := HK1.out; have := HK2.out; have := HK3.out; omega⟩, ⟨by (with_reducible repeat (first | apply Kd.R_alloc | apply Kd.R_drewN | apply Kd.R_drew)); exact Kd.R_mono (Kd.R_far (p := ⟨gb220, 1, none⟩) (Kd.R_far (p := ⟨gb220, 0, none⟩) (Kd.R_types HO_3.out BK220.out (by decide)) (fun _ hk => hk.2) (.int .i64 ((rd_T55 x6_2 x86_3).f0))) (fun _ hk => hk.2) (.int .i64 ((rd_T55 x6_2 x86_3).f1))) (fun _ hk => trivial)⟩, ⟨by (with_reducible repeat (first | apply Kd.R_alloc | apply Kd.R_drewN | apply Kd.R_drew)); exact Kd.R_mono (Kd.R_far (p := ⟨gb220, 1, none⟩) (Kd.R_far (p := ⟨gb220, 0, none⟩) (Kd.R_mono HO_84.out (fun k_ hk => (⟨hk, hk.2⟩ : _ ∧ k_ ≠ gb220))) (fun _ hk => hk.2) (.int .i64 ((rd_T55 x6_2 x86_3).f0))) (fun _ hk => hk.2) (.int .i64 ((rd_T55 x6_2 x86_3).f1))) (fun _ hk => trivial)⟩, ⟨by (with_reducible repeat (first | apply blk_drewN | apply blk_drew | apply blk_alloc)); refine blk_far ?_ NB196_220.out _; (with_reducible repeat (first | apply blk_drewN | apply blk_drew | apply blk_alloc)); refine blk_far ?_ NB196_220.out _; (with_reducible repeat (first | apply blk_drewN | apply blk_drew | apply blk_alloc)); exact BK196.out⟩, ⟨by (with_reducible repeat (first | apply blk_drewN | apply blk_drew | apply blk_alloc)); refine blk_far ?_ NB199_220.out _; (with_reducible repeat (first | apply blk_drewN | apply blk_drew | apply blk_alloc)); refine blk_far ?_ NB199_220.out _; (with_reducible repeat (first | apply blk_drewN | apply blk_drew | apply blk_alloc)); exact BK199.out⟩, ⟨by with_reducible repeat (first | exact HB.out | apply below_alloc | apply pw_below_drewN | apply below_drew1 | refine below_set ?_ GE196.out | refine below_set ?_ GE199.out | refine below_set ?_ GE220.out)⟩⟩
              ·rw [if_neg c96] at H
               exact absurd H (by simp)
             ·rw [if_neg c95] at H
              exact absurd H (by simp)
            ·rw [if_neg c94] at H
             have c94b0 : decide (x86_3 < (x6_2.length : Int)) = false := decide_eq_false c94
             clear c94
             by_cases c106 : x3_1.length < 17592186044416
             ·rw [if_pos c106] at H
              have LMc106 := Aside0.mk c106
              clear c106
              obtain ⟨y221, hy221⟩ : ∃ y_ : List Int, y_ = (x3_1 ++ [x12_3]) := ⟨_, rfl⟩
              replace H : (spec_SelfTimes.l0 k3 y221 l0_1 (l0_1.length : Int) (wrap64 (x21_1 + 1)) a0_0 l0_1) = some r := by first | (rw [hy221]; with_reducible exact H) | (have H2_ := (Option.bind_some _ _).symm.trans H; rw [hy221]; with_reducible exact H2_) | (have H2_ := (Option.bind_some _ _).symm.trans H; with_reducible exact H2_) | with_reducible exact H | (rw [hy221]; exact H) | exact H
              have Ny221 := Aside0.mk hy221
              clear hy221
              have H' := Aside0.mk H
              clear H
              go_wp2_with (first | ((with_reducible refine gate_builtin (b := .append) (xs := #[.tmp 103, .tmp 105]) rfl ?_); at_builtin; refine Kd.R_append (Kd.int .i64) (w0 := w) w.heap.size rfl (.tmp 103) (.tmp 105) 29 3 (.int .i64 0) 8 rfl Try.underlying29 info3 rfl (by decide) (by omega) u3 x3_1 x12_3 [.int .i64 x12_3] (fun _ => True) (fun _ => False) rfl rfl ?aP (fun _ hk => hk.elim) ?aF ?aO ?aB ?aS ?aL ?_; (case aP => exact rfl); (case aB => exact (by with_reducible repeat (first | exact HB.out | apply below_alloc | apply pw_below_drewN | apply below_drew1 | refine below_set ?_ GE196.out | refine below_set ?_ GE199.out))); (case aF => exact (fun _ _ => trivial)); (case aO => exact (by (with_reducible repeat (first | apply Kd.R_alloc | apply Kd.R_drewN | apply Kd.R_drew)); exact HO_3.out)); (case aS => exact (below_size (by with_reducible repeat (first | exact HB.out | apply below_alloc | apply pw_below_drewN | apply below_drew1 | refine below_set ?_ GE196.out | refine below_set ?_ GE199.out)))); (case aL => have := LMc106.out; omega); intro v222 w107 ho hb hg hat; rw [← Ny221.out] at ho; have n0_ := Aside0.mk (Kd.R_over' (by (with_reducible repeat (first | apply Kd.R_alloc | apply Kd.R_drewN | apply Kd.R_drew)); exact HO_84.out) (Kd.R_typed (by (with_reducible repeat (first | apply Kd.R_alloc | apply Kd.R_drewN | apply Kd.R_drew)); exact HO_3.out)) (by decide) hg); have n1_ := Aside0.mk (blk_grown (g := gb196) (by (with_reducible repeat (first | apply blk_drewN | apply blk_drew | apply blk_alloc)); exact BK196.out) hg (Kd.R_ne HO_3.out BK196.out (by decide))); have n2_ := Aside0.mk (blk_grown (g := gb199) (by (with_reducible repeat (first | apply blk_drewN | apply blk_drew | apply blk_alloc)); exact BK199.out) hg (Kd.R_ne HO_3.out BK199.out (by decide))); have n3_ := Aside0.mk (hb); have n4_ := Aside0.mk (ho); clear HO_84; clear BK196; clear BK199; clear HB; clear HO_3; have HO_84 := n0_; have BK196 := n1_; have BK199 := n2_; have HB := n3_; have HO223 := n4_; clear n0_ n1_ n2_ n3_ n4_; clear ho hb hg hat))
              go_roundg k3
              case measure => have := HK1.out; have := HK2.out; have := HK3.out; omega
              case rel => exact ⟨(y221), (wrap64 (x21_1 + 1)), (by first | rfl | (simp; done) | (simp [*]; done)), H', ⟨by have := HK1.out; have := HK2.out; have := HK3.out; omega⟩, ⟨by (with_reducible repeat (first | apply Kd.R_alloc | apply Kd.R_drewN | apply Kd.R_drew)); exact HO223.out⟩, ⟨by (with_reducible repeat (first | apply blk_drewN | apply blk_drew | apply blk_alloc)); exact BK196.out⟩, ⟨by with_reducible repeat (first | exact HB.out | apply below_alloc | apply pw_below_drewN | apply below_drew1 | refine below_set ?_ GE196.out | refine below_set ?_ GE199.out)⟩⟩
             ·rw [if_neg c106] at H
              exact absurd H (by simp)
      ·rw [if_neg c10] at H
       exact absurd H (by simp)
     ·rw [if_neg c9] at H
      exact absurd H (by simp)
    ·rw [if_neg c8] at H
     have c8b0 : decide (x21_1 < (l0_1.length : Int)) = false := decide_eq_false c8
     clear c8
     obtain rfl := Option.some.inj H
     go_wp2
     go_ret
     exact ⟨_, by first | rfl | (simp [bne]; done) | (simp [*] <;> rfl), by (with_reducible repeat (first | apply Kd.R_alloc | apply Kd.R_drewN | apply Kd.R_drew)); exact HO_3.out, by with_reducible repeat (first | exact HB.out | apply below_alloc | apply pw_below_drewN | apply below_drew1 | refine below_set ?_ GE196.out)⟩
 ·replace c3 := Bool.eq_false_iff.mpr c3
  subst c3
  have H1 : (some ([] : List Int)) = some r := by rw [if_neg (show ¬ (false = true) by decide)] at H; exact H
  clear H
  have H := H1
  clear H1
  obtain rfl := Option.some.inj H
  go_enter Try.func9, Try.ntmps9
  go_wp2_with (first | ((with_reducible refine gate_dst (N := 1) rfl ?_); refine box_event ?hg (N := 1) ?hd (cs := #[.int .i64 a0_0, .slice A0_1 l0_1.length c0_1]) (t := 25) ?hr ?_; (case hd => rfl); (case hg => rfl); (case hr => first | (go_simp; done) | (go_simp; rfl)); intro gb196 hg w108 hbox hb; have n0_ := Aside0.mk (below_step (by with_reducible repeat (first | exact HB.out | apply below_alloc | apply pw_below_drewN | apply below_drew1)) hb); have n1_ := Aside0.mk (hbox); have n2_ := Aside0.mk ((by rw [hg]; exact (below_size (by with_reducible repeat (first | exact HB.out | apply below_alloc | apply pw_below_drewN | apply below_drew1))) : w.heap.size ≤ gb196)); have n3_ := n2_; clear HB; have HB := n0_; have BK196 := n1_; have GW196 := n2_; have GE196 := n3_; clear n0_ n1_ n2_ n3_; clear hb hbox hg; have hcz109_0 : w108.cell? ⟨gb196, 0, none⟩ = some (.int .i64 a0_0) := (blk_cell BK196.out 0).trans rfl; have hcz109_1 : w108.cell? ⟨gb196, 1, none⟩ = some (.slice A0_1 l0_1.length c0_1) := (blk_cell BK196.out 1).trans rfl; have hfz109_0 := blk_frozen BK196.out 0; have hfz109_1 := blk_frozen BK196.out 1) | ((with_reducible refine gate_callee (f := 7) rfl ?_); refine goesL_ (some 16) rfl rfl Try.func7 (by kernel_rfl) rfl #[.agg #[.int .i64 a0_0, .slice A0_1 l0_1.length c0_1]] rfl (by (try simp only [List.map_toArray, List.map_cons, List.map_nil]); first | done | rfl) ?_; (with_reducible refine (spec_GoodTrace.calls a0_0 _ _ l0_1 false _ ?side1 ?side2 A2.out).mono ?_); (case side1 => repeat (first | exact (Kd.C_below HR0_1.out HB.out) | (with_reducible refine Kd.C_alloc ?_ _) | (with_reducible refine Kd.C_drewN ?_ _) | (with_reducible refine Kd.C_drew ?_))); (case side2 => exact HC0_1.out); rintro e w110 ⟨rfl, hb⟩; refine ⟨_, rfl, ?_⟩; have n0_ := Aside0.mk (blk_below (g := gb196) (by (with_reducible repeat (first | apply blk_drewN | apply blk_drew | apply blk_alloc)); exact BK196.out) hb); have n1_ := Aside0.mk (below_step (by with_reducible repeat (first | exact HB.out | apply below_alloc | apply pw_below_drewN | apply below_drew1 | refine below_set ?_ GE196.out)) hb); clear BK196; clear HB; have BK196 := n0_; have HB := n1_; clear n0_ n1_; (try clear hb); (try clear hb2); (try clear hk); (try clear hi)))
  go_ret
  exact ⟨_, by first | rfl | (simp [bne]; done) | (simp [*] <;> rfl), by first | exact Kd.R_nil _ _ _ _ _ | exact Kd.N_nil _ _ _ _ _ | exact Kd.V_nil _ _ _ _ _ | exact Kd.Q_nil _ _ _ _ _ | exact Kd.S_nil _ _ _ _ _, by with_reducible repeat (first | exact HB.out | apply below_alloc | apply pw_below_drewN | apply below_drew1 | refine below_set ?_ GE196.out)⟩

end Go.Proofs.Ytalhphclogbpnaa.PFnCritical
