-- Written by a program of this repo (myprint: the kit's print with functions given by hand).
import Derived.Test.YtalhphclogbpnaaPFnCriticalx0
import Derived.Test.YtalhphclogbpnaaPFnCriticalx5
import Derived.Test.YtalhphclogbpnaaPFnCriticalx6
import Derived.Test.YtalhphclogbpnaaHCritical
import Derived.Test.YtalhphclogbpnaaHDraw
import Derived.Test.YtalhphclogbpnaaHSelf
import Derived.Test.YtalhphclogbpnaaHSpecTrace
namespace Go.Proofs.Ytalhphclogbpnaa.PFnCritical
attribute [local go_sem] Go.Proofs.Ytalhphclogbpnaa.Cmp.str_gtr Go.Proofs.Ytalhphclogbpnaa.Cmp.str_geq Go.Proofs.Ytalhphclogbpnaa.Cmp.str_leq
open Go.RowKit Go.Proofs.YtalhphclogbpnaaW.PrintWords Go.Proofs.YtalhphclogbpnaaW.PrintLast Go.Proofs.YtalhphclogbpnaaW.PrintMore
attribute [local go_sem] max2_int min2_int max_two min_two max_three min_three max_four min_four   -- for this text's walks alone
set_option linter.unusedVariables false
set_option linter.unusedSimpArgs false

/-! ### laws_FnCritical: function 3 -/
mutual
def laws_FnCritical.l0 : Nat → List Int → Int → List Int → List (S36) → Int → Int → Int → List (S34) → Option (Bool)
 | 0, _, _, _, _, _, _, _, _ => none
 | k + 1, x5, x6, x7, x49, x50, x51, x229000, x229001 => if x51 < x50 then (if 0 ≤ x51 then (if x51 < (x49.length : Int) then (laws_FnCritical.l1 k x5 x6 x7 false x49 x50 x51 x229001 (x229001.length : Int) 0 x229000 x229001 ((rd_T36 x49 x51).f0) ((rd_T36 x49 x51).f1) ((rd_T36 x49 x51).f2)) else (none)) else (none)) else (laws_FnCritical.l2 k x5 x6 x7 x229001 (x229001.length : Int) 0 x229000 x229001)
def laws_FnCritical.l1 : Nat → List Int → Int → List Int → Bool → List (S36) → Int → Int → List (S34) → Int → Int → Int → List (S34) → Int → Int → Int → Option (Bool)
 | 0, _, _, _, _, _, _, _, _, _, _, _, _, _, _, _ => none
 | k + 1, x5, x6, x7, x10, x49, x50, x51, x56, x57, x58, x229000, x229001, x246000, x246001, x246002 => if x58 < x57 then (if 0 ≤ x58 then (if x58 < (x56.length : Int) then (if ((rd_T34 x56 x58).f0) = x246000 then (if x246001 ≥ ((rd_T34 x56 x58).f4) then (if x58 < (x7.length : Int) then (laws_FnCritical.l1 k x5 x6 (x7.set (x58 : Int).toNat (wrap64 ((rd x7 x58) + (wrap64 (x246002 - x246001))))) (decide (x246002 ≤ ((rd_T34 x56 x58).f5))) x49 x50 x51 x56 x57 (wrap64 (x58 + 1)) x229000 x229001 x246000 x246001 x246002) else (none)) else (if x58 < (x7.length : Int) then (laws_FnCritical.l1 k x5 x6 (x7.set (x58 : Int).toNat (wrap64 ((rd x7 x58) + (wrap64 (x246002 - x246001))))) false x49 x50 x51 x56 x57 (wrap64 (x58 + 1)) x229000 x229001 x246000 x246001 x246002) else (none))) else (laws_FnCritical.l1 k x5 x6 x7 x10 x49 x50 x51 x56 x57 (wrap64 (x58 + 1)) x229000 x229001 x246000 x246001 x246002)) else (none)) else (none)) else (if x10 = true then (if x246001 = x6 then (if x246002 ≤ x246001 then (some false) else (laws_FnCritical.l0 k x5 x246002 x7 x49 x50 (wrap64 (x51 + 1)) x229000 x229001)) else (some false)) else (some false))
def laws_FnCritical.l2 : Nat → List Int → Int → List Int → List (S34) → Int → Int → Int → List (S34) → Option (Bool)
 | 0, _, _, _, _, _, _, _, _ => none
 | k + 1, x5, x6, x7, x111, x112, x113, x229000, x229001 => if x113 < x112 then (if 0 ≤ x113 then (if x113 < (x111.length : Int) then (if x113 < (x7.length : Int) then (if x113 < (x5.length : Int) then (if (rd x7 x113) > (rd x5 x113) then (some false) else (if (rd x5 x113) > (wrap64 (((rd_T34 x111 x113).f5) - ((rd_T34 x111 x113).f4))) then (some false) else (laws_FnCritical.l2 k x5 x6 x7 x111 x112 (wrap64 (x113 + 1)) x229000 x229001))) else (none)) else (none)) else (none)) else (none)) else (if 0 < (x229001.length : Int) then (some (x6 == ((rd_T34 x229001 0).f5))) else (none))
end
def laws_FnCritical.f (k : Nat) (l0 : List Int) : Option (Bool) := if (l0.length : Int) > 1048576 then (some true) else ((spec_DrawCriticalPath.f k l0).bind fun bt224 => ((impl_CriticalPath.f k bt224.1 bt224.2).bind fun t229 => ((impl_SelfTimes.f k bt224.1 bt224.2).bind fun t232 => ((spec_GoodTrace.f bt224.1 bt224.2).bind fun t235 => (if t235 = true then ((spec_SelfTimes.f k bt224.1 bt224.2).bind fun t236 => ((laws_zInts.f k t232 t236).bind fun t239 => (if t239 = true then (if 0 < (bt224.2.length : Int) then (if 0 ≤ (bt224.2.length : Int) then (if ((bt224.2.length : Int) : Int).toNat ≤ 35184372088832 then (laws_FnCritical.l0 k t232 ((rd_T34 bt224.2 0).f4) (List.replicate ((bt224.2.length : Int) : Int).toNat 0) t229 (t229.length : Int) 0 bt224.1 bt224.2) else (none)) else (none)) else (none)) else (some false)))) else (if (t229.length : Int) = 0 then (some ((t232.length : Int) == 0)) else (some false)))))))
theorem laws_FnCritical.mono_l : ∀ k, (∀ y0 y1 y2 y3 y4 y5 y6 y7, LeO (laws_FnCritical.l0 k y0 y1 y2 y3 y4 y5 y6 y7) (laws_FnCritical.l0 (k + 1) y0 y1 y2 y3 y4 y5 y6 y7)) ∧ (∀ y0 y1 y2 y3 y4 y5 y6 y7 y8 y9 y10 y11 y12 y13 y14, LeO (laws_FnCritical.l1 k y0 y1 y2 y3 y4 y5 y6 y7 y8 y9 y10 y11 y12 y13 y14) (laws_FnCritical.l1 (k + 1) y0 y1 y2 y3 y4 y5 y6 y7 y8 y9 y10 y11 y12 y13 y14)) ∧ (∀ y0 y1 y2 y3 y4 y5 y6 y7, LeO (laws_FnCritical.l2 k y0 y1 y2 y3 y4 y5 y6 y7) (laws_FnCritical.l2 (k + 1) y0 y1 y2 y3 y4 y5 y6 y7))
 | 0 => ⟨fun _ _ _ _ _ _ _ _ r h => by simp [laws_FnCritical.l0] at h, fun _ _ _ _ _ _ _ _ _ _ _ _ _ _ _ r h => by simp [laws_FnCritical.l1] at h, fun _ _ _ _ _ _ _ _ r h => by simp [laws_FnCritical.l2] at h⟩
 | k + 1 => by
  obtain ⟨ih0, ih1, ih2⟩ := laws_FnCritical.mono_l k
  refine ⟨?_, ?_, ?_⟩
  ·intro y0 y1 y2 y3 y4 y5 y6 y7
   unfold laws_FnCritical.l0
   repeat' first
   | (with_reducible exact ih0 _ _ _ _ _ _ _ _)
   | (with_reducible exact ih1 _ _ _ _ _ _ _ _ _ _ _ _ _ _ _)
   | (with_reducible exact ih2 _ _ _ _ _ _ _ _)
   | (with_reducible exact impl_CriticalPath.mono _ _ _)
   | (with_reducible exact impl_SelfTimes.mono _ _ _)
   | (with_reducible exact laws_zInts.mono _ _ _)
   | (with_reducible exact spec_DrawCriticalPath.mono _ _)
   | (with_reducible exact spec_SelfTimes.mono _ _ _)
   | (with_reducible exact LeO.refl _)
   | (with_reducible exact LeO.none _)
   | (with_reducible refine LeO.ite ?_ ?_)
   | (with_reducible refine LeO.bind ?_ (fun _ => ?_))
   | exact ih0 _ _ _ _ _ _ _ _
   | exact ih1 _ _ _ _ _ _ _ _ _ _ _ _ _ _ _
   | exact ih2 _ _ _ _ _ _ _ _
   | exact impl_CriticalPath.mono _ _ _
   | exact impl_SelfTimes.mono _ _ _
   | exact laws_zInts.mono _ _ _
   | exact spec_DrawCriticalPath.mono _ _
   | exact spec_SelfTimes.mono _ _ _
   | exact LeO.none _
   | refine LeO.ite ?_ ?_
   | refine LeO.bind ?_ (fun _ => ?_)
  ·intro y0 y1 y2 y3 y4 y5 y6 y7 y8 y9 y10 y11 y12 y13 y14
   unfold laws_FnCritical.l1
   repeat' first
   | (with_reducible exact ih0 _ _ _ _ _ _ _ _)
   | (with_reducible exact ih1 _ _ _ _ _ _ _ _ _ _ _ _ _ _ _)
   | (with_reducible exact ih2 _ _ _ _ _ _ _ _)
   | (with_reducible exact impl_CriticalPath.mono _ _ _)
   | (with_reducible exact impl_SelfTimes.mono _ _ _)
   | (with_reducible exact laws_zInts.mono _ _ _)
   | (with_reducible exact spec_DrawCriticalPath.mono _ _)
   | (with_reducible exact spec_SelfTimes.mono _ _ _)
   | (with_reducible exact LeO.refl _)
   | (with_reducible exact LeO.none _)
   | (with_reducible refine LeO.ite ?_ ?_)
   | (with_reducible refine LeO.bind ?_ (fun _ => ?_))
   | exact ih0 _ _ _ _ _ _ _ _
   | exact ih1 _ _ _ _ _ _ _ _ _ _ _ _ _ _ _
   | exact ih2 _ _ _ _ _ _ _ _
   | exact impl_CriticalPath.mono _ _ _
   | exact impl_SelfTimes.mono _ _ _
   | exact laws_zInts.mono _ _ _
   | exact spec_DrawCriticalPath.mono _ _
   | exact spec_SelfTimes.mono _ _ _
   | exact LeO.none _
   | refine LeO.ite ?_ ?_
   | refine LeO.bind ?_ (fun _ => ?_)
  ·intro y0 y1 y2 y3 y4 y5 y6 y7
   unfold laws_FnCritical.l2
   repeat' first
   | (with_reducible exact ih0 _ _ _ _ _ _ _ _)
   | (with_reducible exact ih1 _ _ _ _ _ _ _ _ _ _ _ _ _ _ _)
   | (with_reducible exact ih2 _ _ _ _ _ _ _ _)
   | (with_reducible exact impl_CriticalPath.mono _ _ _)
   | (with_reducible exact impl_SelfTimes.mono _ _ _)
   | (with_reducible exact laws_zInts.mono _ _ _)
   | (with_reducible exact spec_DrawCriticalPath.mono _ _)
   | (with_reducible exact spec_SelfTimes.mono _ _ _)
   | (with_reducible exact LeO.refl _)
   | (with_reducible exact LeO.none _)
   | (with_reducible refine LeO.ite ?_ ?_)
   | (with_reducible refine LeO.bind ?_ (fun _ => ?_))
   | exact ih0 _ _ _ _ _ _ _ _
   | exact ih1 _ _ _ _ _ _ _ _ _ _ _ _ _ _ _
   | exact ih2 _ _ _ _ _ _ _ _
   | exact impl_CriticalPath.mono _ _ _
   | exact impl_SelfTimes.mono _ _ _
   | exact laws_zInts.mono _ _ _
   | exact spec_DrawCriticalPath.mono _ _
   | exact spec_SelfTimes.mono _ _ _
   | exact LeO.none _
   | refine LeO.ite ?_ ?_
   | refine LeO.bind ?_ (fun _ => ?_)
theorem laws_FnCritical.mono : ∀ a0 k, LeO (laws_FnCritical.f k a0) (laws_FnCritical.f (k + 1) a0) := by
 intro a0 k
 obtain ⟨ih0, ih1, ih2⟩ := laws_FnCritical.mono_l k
 unfold laws_FnCritical.f
 repeat' first
   | (with_reducible exact ih0 _ _ _ _ _ _ _ _)
   | (with_reducible exact ih1 _ _ _ _ _ _ _ _ _ _ _ _ _ _ _)
   | (with_reducible exact ih2 _ _ _ _ _ _ _ _)
   | (with_reducible exact impl_CriticalPath.mono _ _ _)
   | (with_reducible exact impl_SelfTimes.mono _ _ _)
   | (with_reducible exact laws_zInts.mono _ _ _)
   | (with_reducible exact spec_DrawCriticalPath.mono _ _)
   | (with_reducible exact spec_SelfTimes.mono _ _ _)
   | (with_reducible exact LeO.refl _)
   | (with_reducible exact LeO.none _)
   | (with_reducible refine LeO.ite ?_ ?_)
   | (with_reducible refine LeO.bind ?_ (fun _ => ?_))
   | exact ih0 _ _ _ _ _ _ _ _
   | exact ih1 _ _ _ _ _ _ _ _ _ _ _ _ _ _ _
   | exact ih2 _ _ _ _ _ _ _ _
   | exact impl_CriticalPath.mono _ _ _
   | exact impl_SelfTimes.mono _ _ _
   | exact laws_zInts.mono _ _ _
   | exact spec_DrawCriticalPath.mono _ _
   | exact spec_SelfTimes.mono _ _ _
   | exact LeO.none _
   | refine LeO.ite ?_ ?_
   | refine LeO.bind ?_ (fun _ => ?_)
def laws_FnCritical.T21 : Bool × List (List Nat × List Nat) := (true, [([], []), ([], []), ([0, 1], [0, 1]), ([2], [2]), ([], []), ([4], [4]), ([], []), ([6], [6]), ([5, 7], [5, 7]), ([3, 8], [3, 8]), ([0, 1, 0, 1, 2, 3, 4, 5, 6, 7, 8, 9], [0, 1]), ([10, 9, 0, 1, 2, 3, 4, 5, 6, 7, 8, 9], [9, 10])])
def laws_FnCritical.B21 : List Nat := [0, 0, 3, 7, 0, 16, 0, 64, 240, 511, 1023, 2047]
theorem laws_FnCritical.tab21 : rtab .any (opsOf Try.f3 21) = laws_FnCritical.T21 := by kernel_rfl
theorem laws_FnCritical.bits21 : waitsOk laws_FnCritical.T21.2 laws_FnCritical.B21 = true := by kernel_rfl
def laws_FnCritical.T30 : Bool × List (List Nat × List Nat) := (true, [([], []), ([], []), ([0, 1], [0, 1]), ([2], [2]), ([], []), ([], []), ([4, 5], [4, 5]), ([6], [6]), ([3, 7], [3, 7]), ([8], [8]), ([9], [9]), ([9], [9]), ([10, 11, 9], [9, 10, 11]), ([12, 9], [9, 12]), ([9], [9]), ([14, 9], [9, 14]), ([9], [9]), ([16, 9], [9, 16]), ([15, 17, 9], [9, 15, 17]), ([13, 18, 9], [9, 13, 18]), ([9, 19], [9, 19])])
def laws_FnCritical.B30 : List Nat := [0, 0, 3, 7, 0, 0, 48, 112, 255, 511, 1023, 1023, 4095, 8191, 1023, 17407, 1023, 66559, 246783, 524287, 1048575]
theorem laws_FnCritical.tab30 : rtab .any (opsOf Try.f3 30) = laws_FnCritical.T30 := by kernel_rfl
theorem laws_FnCritical.bits30 : waitsOk laws_FnCritical.T30.2 laws_FnCritical.B30 = true := by kernel_rfl
set_option maxHeartbeats 8000000 in
set_option maxRecDepth 100000 in
theorem laws_FnCritical.calls (k : Nat) (A0 : Option Addr) (c0 : Nat) (l0 : List Int) (r : Bool) (w : World) (hr0 : Kd.C (Kd.int .u8) w A0 l0.length l0) (hc0 : l0.length ≤ c0) (h : laws_FnCritical.f k l0 = some r) :
  Calls Try.prog 3 #[.slice A0 l0.length c0] w fun e w' => e = .returned (.bool r) ∧ Below w.heap.size w w' := by
 have hu25 := Try.underlying25
 have hu36 := Try.underlying36
 have hu34 := Try.underlying34
 have HR0 := Aside0.mk hr0
 have HC0 := Aside0.mk hc0
 clear hr0 hc0
 have HB := Aside0.mk (Below.refl w.heap.size w)
 have H : (if (l0.length : Int) > 1048576 then (some true) else ((spec_DrawCriticalPath.f k l0).bind fun bt224 => ((impl_CriticalPath.f k bt224.1 bt224.2).bind fun t229 => ((impl_SelfTimes.f k bt224.1 bt224.2).bind fun t232 => ((spec_GoodTrace.f bt224.1 bt224.2).bind fun t235 => (if t235 = true then ((spec_SelfTimes.f k bt224.1 bt224.2).bind fun t236 => ((laws_zInts.f k t232 t236).bind fun t239 => (if t239 = true then (if 0 < (bt224.2.length : Int) then (if 0 ≤ (bt224.2.length : Int) then (if ((bt224.2.length : Int) : Int).toNat ≤ 35184372088832 then (laws_FnCritical.l0 k t232 ((rd_T34 bt224.2 0).f4) (List.replicate ((bt224.2.length : Int) : Int).toNat 0) t229 (t229.length : Int) 0 bt224.1 bt224.2) else (none)) else (none)) else (none)) else (some false)))) else (if (t229.length : Int) = 0 then (some ((t232.length : Int) == 0)) else (some false)))))))) = some r := h
 clear h
 by_cases c2 : (l0.length : Int) > 1048576
 ·rw [if_pos c2] at H
  have c2b0 : decide (1048576 < (l0.length : Int)) = true := decide_eq_true c2
  have c2b1 : decide (1048576 < l0.length) = true := decide_eq_true (by omega)
  clear c2
  obtain rfl := Option.some.inj H
  go_enter Try.func3, Try.ntmps3
  go_wp2
  go_ret
  exact ⟨by first | rfl | (simp [bne]; done) | (simp [*] <;> rfl), by with_reducible repeat (first | exact HB.out | apply below_alloc | apply pw_below_drewN | apply below_drew1)⟩
 ·rw [if_neg c2] at H
  have c2b0 : decide (1048576 < (l0.length : Int)) = false := decide_eq_false c2
  have c2b1 : decide (1048576 < l0.length) = false := decide_eq_false (by omega)
  clear c2
  replace H := Option.bind_eq_some_iff.mp H
  obtain ⟨⟨t224, t225⟩, A30, H⟩ := H
  replace H : ((impl_CriticalPath.f k t224 t225).bind fun t229 => ((impl_SelfTimes.f k t224 t225).bind fun t232 => ((spec_GoodTrace.f t224 t225).bind fun t235 => (if t235 = true then ((spec_SelfTimes.f k t224 t225).bind fun t236 => ((laws_zInts.f k t232 t236).bind fun t239 => (if t239 = true then (if 0 < (t225.length : Int) then (if 0 ≤ (t225.length : Int) then (if ((t225.length : Int) : Int).toNat ≤ 35184372088832 then (laws_FnCritical.l0 k t232 ((rd_T34 t225 0).f4) (List.replicate ((t225.length : Int) : Int).toNat 0) t229 (t229.length : Int) 0 t224 t225) else (none)) else (none)) else (none)) else (some false)))) else (if (t229.length : Int) = 0 then (some ((t232.length : Int) == 0)) else (some false)))))) = some r := H
  have A3 := Aside0.mk A30
  clear A30
  replace H := Option.bind_eq_some_iff.mp H
  obtain ⟨t229, A40, H⟩ := H
  replace H : ((impl_SelfTimes.f k t224 t225).bind fun t232 => ((spec_GoodTrace.f t224 t225).bind fun t235 => (if t235 = true then ((spec_SelfTimes.f k t224 t225).bind fun t236 => ((laws_zInts.f k t232 t236).bind fun t239 => (if t239 = true then (if 0 < (t225.length : Int) then (if 0 ≤ (t225.length : Int) then (if ((t225.length : Int) : Int).toNat ≤ 35184372088832 then (laws_FnCritical.l0 k t232 ((rd_T34 t225 0).f4) (List.replicate ((t225.length : Int) : Int).toNat 0) t229 (t229.length : Int) 0 t224 t225) else (none)) else (none)) else (none)) else (some false)))) else (if (t229.length : Int) = 0 then (some ((t232.length : Int) == 0)) else (some false))))) = some r := H
  have A4 := Aside0.mk A40
  clear A40
  replace H := Option.bind_eq_some_iff.mp H
  obtain ⟨t232, A50, H⟩ := H
  replace H : ((spec_GoodTrace.f t224 t225).bind fun t235 => (if t235 = true then ((spec_SelfTimes.f k t224 t225).bind fun t236 => ((laws_zInts.f k t232 t236).bind fun t239 => (if t239 = true then (if 0 < (t225.length : Int) then (if 0 ≤ (t225.length : Int) then (if ((t225.length : Int) : Int).toNat ≤ 35184372088832 then (laws_FnCritical.l0 k t232 ((rd_T34 t225 0).f4) (List.replicate ((t225.length : Int) : Int).toNat 0) t229 (t229.length : Int) 0 t224 t225) else (none)) else (none)) else (none)) else (some false)))) else (if (t229.length : Int) = 0 then (some ((t232.length : Int) == 0)) else (some false)))) = some r := H
  have A5 := Aside0.mk A50
  clear A50
  replace H := Option.bind_eq_some_iff.mp H
  obtain ⟨t235, A60, H⟩ := H
  replace H : (if t235 = true then ((spec_SelfTimes.f k t224 t225).bind fun t236 => ((laws_zInts.f k t232 t236).bind fun t239 => (if t239 = true then (if 0 < (t225.length : Int) then (if 0 ≤ (t225.length : Int) then (if ((t225.length : Int) : Int).toNat ≤ 35184372088832 then (laws_FnCritical.l0 k t232 ((rd_T34 t225 0).f4) (List.replicate ((t225.length : Int) : Int).toNat 0) t229 (t229.length : Int) 0 t224 t225) else (none)) else (none)) else (none)) else (some false)))) else (if (t229.length : Int) = 0 then (some ((t232.length : Int) == 0)) else (some false))) = some r := H
  have A6 := Aside0.mk A60
  clear A60
  by_cases c7 : t235 = true
  ·subst c7
   have H1 : ((spec_SelfTimes.f k t224 t225).bind fun t236 => ((laws_zInts.f k t232 t236).bind fun t239 => (if t239 = true then (if 0 < (t225.length : Int) then (if 0 ≤ (t225.length : Int) then (if ((t225.length : Int) : Int).toNat ≤ 35184372088832 then (laws_FnCritical.l0 k t232 ((rd_T34 t225 0).f4) (List.replicate ((t225.length : Int) : Int).toNat 0) t229 (t229.length : Int) 0 t224 t225) else (none)) else (none)) else (none)) else (some false)))) = some r := by rw [if_pos rfl] at H; exact H
   clear H
   have H := H1
   clear H1
   replace H := Option.bind_eq_some_iff.mp H
   obtain ⟨t236, A80, H⟩ := H
   replace H : ((laws_zInts.f k t232 t236).bind fun t239 => (if t239 = true then (if 0 < (t225.length : Int) then (if 0 ≤ (t225.length : Int) then (if ((t225.length : Int) : Int).toNat ≤ 35184372088832 then (laws_FnCritical.l0 k t232 ((rd_T34 t225 0).f4) (List.replicate ((t225.length : Int) : Int).toNat 0) t229 (t229.length : Int) 0 t224 t225) else (none)) else (none)) else (none)) else (some false))) = some r := H
   have A8 := Aside0.mk A80
   clear A80
   replace H := Option.bind_eq_some_iff.mp H
   obtain ⟨t239, A90, H⟩ := H
   replace H : (if t239 = true then (if 0 < (t225.length : Int) then (if 0 ≤ (t225.length : Int) then (if ((t225.length : Int) : Int).toNat ≤ 35184372088832 then (laws_FnCritical.l0 k t232 ((rd_T34 t225 0).f4) (List.replicate ((t225.length : Int) : Int).toNat 0) t229 (t229.length : Int) 0 t224 t225) else (none)) else (none)) else (none)) else (some false)) = some r := H
   have A9 := Aside0.mk A90
   clear A90
   by_cases c10 : t239 = true
   ·subst c10
    have H1 : (if 0 < (t225.length : Int) then (if 0 ≤ (t225.length : Int) then (if ((t225.length : Int) : Int).toNat ≤ 35184372088832 then (laws_FnCritical.l0 k t232 ((rd_T34 t225 0).f4) (List.replicate ((t225.length : Int) : Int).toNat 0) t229 (t229.length : Int) 0 t224 t225) else (none)) else (none)) else (none)) = some r := by rw [if_pos rfl] at H; exact H
    clear H
    have H := H1
    clear H1
    by_cases c11 : 0 < (t225.length : Int)
    ·rw [if_pos c11] at H
     have c11b0 : decide (0 < (t225.length : Int)) = true := decide_eq_true c11
     have c11b1 : decide (0 < t225.length) = true := decide_eq_true (by omega)
     clear c11
     by_cases c12 : 0 ≤ (t225.length : Int)
     ·rw [if_pos c12] at H
      have c12b0 := eq_true c12
      have c12b1 : decide (0 ≤ (t225.length : Int)) = true := decide_eq_true c12
      clear c12
      by_cases c13 : ((t225.length : Int) : Int).toNat ≤ 35184372088832
      ·rw [if_pos c13] at H
       have c13b0 := eq_true c13
       have c13b1 : decide (((t225.length : Int) : Int).toNat ≤ 35184372088832) = true := decide_eq_true c13
       clear c13
       obtain ⟨y241, hy241⟩ : ∃ y_ : List Int, y_ = (List.replicate ((t225.length : Int) : Int).toNat 0) := ⟨_, rfl⟩
       replace H : (laws_FnCritical.l0 k t232 ((rd_T34 t225 0).f4) y241 t229 (t229.length : Int) 0 t224 t225) = some r := by first | (rw [hy241]; with_reducible exact H) | (have H2_ := (Option.bind_some _ _).symm.trans H; rw [hy241]; with_reducible exact H2_) | (have H2_ := (Option.bind_some _ _).symm.trans H; with_reducible exact H2_) | with_reducible exact H | (rw [hy241]; exact H) | exact H
       have Ny241 := Aside0.mk hy241
       clear hy241
       have H' := Aside0.mk H
       clear H
       go_enter Try.func3, Try.ntmps3
       go_wp2_with (first | ((with_reducible refine gate_callee (f := 4) rfl ?_); refine goesL_ (some 19) rfl rfl Try.func4 (by kernel_rfl) rfl #[.slice A0 l0.length c0] rfl (by (try simp only [List.map_toArray, List.map_cons, List.map_nil]); first | done | rfl) ?_; (with_reducible refine (spec_DrawCriticalPath.calls k _ _ l0 t224 t225 _ ?side1 ?side2 A3.out).mono ?_); (case side1 => repeat (first | exact HR0.out | (with_reducible refine Kd.C_alloc ?_ _) | (with_reducible refine Kd.C_drewN ?_ _) | (with_reducible refine Kd.C_drew ?_))); (case side2 => exact HC0.out); rintro e w14 ⟨v226, rfl, ho0, hb⟩; refine ⟨_, rfl, ?_⟩; have n0_ := Aside0.mk (Kd.R_lower ho0 (below_size (by with_reducible repeat (first | exact HB.out | apply below_alloc | apply pw_below_drewN | apply below_drew1)))); have n1_ := Aside0.mk (below_step (by with_reducible repeat (first | exact HB.out | apply below_alloc | apply pw_below_drewN | apply below_drew1)) hb); clear HB; have HO227 := n0_; have HB := n1_; clear n0_ n1_; (try clear hb); (try clear hb2); (try clear hk); (try clear hi); (try clear ho0)) | ((with_reducible refine gate_dst (N := 3) rfl ?_); (try (refine gate_guard (by rfl) ?_; dsimp only)); refine box_event ?hg (N := 3) ?hd (cs := #[.int .i64 0, .slice none 0 0]) (t := 25) ?hr ?_; (case hd => rfl); (case hg => rfl); (case hr => first | (go_simp; done) | (go_simp; rfl)); intro gb228 hg w15 hbox hb; have n0_ := Aside0.mk (Kd.R_below (by (with_reducible repeat (first | apply Kd.R_alloc | apply Kd.R_drewN | apply Kd.R_drew)); exact HO227.out) hb); have n1_ := Aside0.mk (below_step (by with_reducible repeat (first | exact HB.out | apply below_alloc | apply pw_below_drewN | apply below_drew1)) hb); have n2_ := Aside0.mk (hbox); have n3_ := Aside0.mk ((by rw [hg]; exact (below_size (by with_reducible repeat (first | exact HB.out | apply below_alloc | apply pw_below_drewN | apply below_drew1))) : w.heap.size ≤ gb228)); have n4_ := n3_; clear HO227; clear HB; have HO227 := n0_; have HB := n1_; have BK228 := n2_; have GW228 := n3_; have GE228 := n4_; clear n0_ n1_ n2_ n3_ n4_; clear hb hbox hg; have hcz16_0 : w15.cell? ⟨gb228, 0, none⟩ = some (.int .i64 0) := (blk_cell BK228.out 0).trans rfl; have hcz16_1 : w15.cell? ⟨gb228, 1, none⟩ = some (.slice none 0 0) := (blk_cell BK228.out 1).trans rfl; have hfz16_0 := blk_frozen BK228.out 0; have hfz16_1 := blk_frozen BK228.out 1; obtain ⟨Ao17, co17, eo17⟩ := Kd.R_slice HO227.out; subst eo17) | ((with_reducible refine gate_callee (f := 5) rfl ?_); refine goesL_ (some 21) rfl rfl Try.func5 (by kernel_rfl) rfl #[.agg #[.int .i64 t224, .slice Ao17 t225.length co17]] rfl (by (try simp only [List.map_toArray, List.map_cons, List.map_nil]); first | done | rfl) ?_; (with_reducible refine (impl_CriticalPath.calls k t224 _ _ t225 t229 _ ?side1 ?side2 A4.out).mono ?_); (case side1 => refine (Kd.R_reads' (e := 34) (base := w.heap.size) (ok := fun k_ => True) (n := t225.length) (c := co17) ?_).2.2; exact (by (with_reducible repeat (first | apply Kd.R_alloc | apply Kd.R_drewN | apply Kd.R_drew)); exact (Kd.R_mono (Kd.R_far (p := ⟨gb228, 1, none⟩) (Kd.R_far (p := ⟨gb228, 0, none⟩) (Kd.R_types HO227.out BK228.out (by decide)) (fun _ hk => hk.2) (.int .i64 t224)) (fun _ hk => hk.2) (.slice Ao17 t225.length co17)) (fun _ h_ => h_.1)))); (case side2 => exact (Kd.R_reads' HO227.out).2.1); rintro e w18 ⟨v230, rfl, ho0, hb⟩; refine ⟨_, rfl, ?_⟩; have n0_ := Aside0.mk (Kd.R_below (by (with_reducible repeat (first | apply Kd.R_alloc | apply Kd.R_drewN | apply Kd.R_drew)); exact (Kd.R_mono (Kd.R_far (p := ⟨gb228, 1, none⟩) (Kd.R_far (p := ⟨gb228, 0, none⟩) (Kd.R_types HO227.out BK228.out (by decide)) (fun _ hk => hk.2) (.int .i64 t224)) (fun _ hk => hk.2) (.slice Ao17 t225.length co17)) (fun _ h_ => h_.1))) hb); have n1_ := Aside0.mk (Kd.R_lower ho0 (below_size (by with_reducible repeat (first | exact HB.out | apply below_alloc | apply pw_below_drewN | apply below_drew1 | refine below_set ?_ GE228.out)))); have n2_ := Aside0.mk (blk_below (g := gb228) (o := .cells #[.int .i64 t224, .slice Ao17 t225.length co17] 25 (0, 0)) (by (with_reducible repeat (first | apply blk_drewN | apply blk_drew | apply blk_alloc)); refine blk_put (cs := #[.int .i64 t224, .slice none 0 0]) ?_ 1 _ rfl; (with_reducible repeat (first | apply blk_drewN | apply blk_drew | apply blk_alloc)); refine blk_put (cs := #[.int .i64 0, .slice none 0 0]) ?_ 0 _ rfl; (with_reducible repeat (first | apply blk_drewN | apply blk_drew | apply blk_alloc)); exact BK228.out) hb); have n3_ := Aside0.mk (below_step (by with_reducible repeat (first | exact HB.out | apply below_alloc | apply pw_below_drewN | apply below_drew1 | refine below_set ?_ GE228.out)) hb); clear HO227; clear BK228; clear HB; have HO227 := n0_; have HO231 := n1_; have BK228 := n2_; have HB := n3_; clear n0_ n1_ n2_ n3_; (try clear hb); (try clear hb2); (try clear hk); (try clear hi); (try clear ho0); have hcz19_0 : w18.cell? ⟨gb228, 0, none⟩ = some (.int .i64 t224) := (blk_cell BK228.out 0).trans rfl; have hcz19_1 : w18.cell? ⟨gb228, 1, none⟩ = some (.slice Ao17 t225.length co17) := (blk_cell BK228.out 1).trans rfl; have hfz19_0 := blk_frozen BK228.out 0; have hfz19_1 := blk_frozen BK228.out 1) | ((with_reducible refine gate_callee (f := 6) rfl ?_); refine goesL_ (some 23) rfl rfl Try.func6 (by kernel_rfl) rfl #[.agg #[.int .i64 t224, .slice Ao17 t225.length co17]] rfl (by (try simp only [List.map_toArray, List.map_cons, List.map_nil]); first | done | rfl) ?_; (with_reducible refine (impl_SelfTimes.calls k t224 _ _ t225 t232 _ ?side1 ?side2 A5.out).mono ?_); (case side1 => repeat (first | exact (Kd.R_reads' HO227.out).2.2 | (with_reducible refine Kd.C_alloc ?_ _) | (with_reducible refine Kd.C_drewN ?_ _) | (with_reducible refine Kd.C_drew ?_))); (case side2 => exact (Kd.R_reads' HO227.out).2.1); rintro e w20 ⟨v233, rfl, ho0, hb⟩; refine ⟨_, rfl, ?_⟩; have n0_ := Aside0.mk (Kd.R_below (by (with_reducible repeat (first | apply Kd.R_alloc | apply Kd.R_drewN | apply Kd.R_drew)); exact HO227.out) hb); have n1_ := Aside0.mk (Kd.R_below (by (with_reducible repeat (first | apply Kd.R_alloc | apply Kd.R_drewN | apply Kd.R_drew)); exact HO231.out) hb); have n2_ := Aside0.mk (Kd.R_lower ho0 (below_size (by with_reducible repeat (first | exact HB.out | apply below_alloc | apply pw_below_drewN | apply below_drew1 | refine below_set ?_ GE228.out)))); have n3_ := Aside0.mk (blk_below (g := gb228) (by (with_reducible repeat (first | apply blk_drewN | apply blk_drew | apply blk_alloc)); exact BK228.out) hb); have n4_ := Aside0.mk (below_step (by with_reducible repeat (first | exact HB.out | apply below_alloc | apply pw_below_drewN | apply below_drew1 | refine below_set ?_ GE228.out)) hb); clear HO227; clear HO231; clear BK228; clear HB; have HO227 := n0_; have HO231 := n1_; have HO234 := n2_; have BK228 := n3_; have HB := n4_; clear n0_ n1_ n2_ n3_ n4_; (try clear hb); (try clear hb2); (try clear hk); (try clear hi); (try clear ho0); have hcz21_0 : w20.cell? ⟨gb228, 0, none⟩ = some (.int .i64 t224) := (blk_cell BK228.out 0).trans rfl; have hcz21_1 : w20.cell? ⟨gb228, 1, none⟩ = some (.slice Ao17 t225.length co17) := (blk_cell BK228.out 1).trans rfl; have hfz21_0 := blk_frozen BK228.out 0; have hfz21_1 := blk_frozen BK228.out 1) | ((with_reducible refine gate_callee (f := 7) rfl ?_); refine goesL_ (some 25) rfl rfl Try.func7 (by kernel_rfl) rfl #[.agg #[.int .i64 t224, .slice Ao17 t225.length co17]] rfl (by (try simp only [List.map_toArray, List.map_cons, List.map_nil]); first | done | rfl) ?_; (with_reducible refine (spec_GoodTrace.calls t224 _ _ t225 true _ ?side1 ?side2 A6.out).mono ?_); (case side1 => repeat (first | exact (Kd.R_reads' HO227.out).2.2 | (with_reducible refine Kd.C_alloc ?_ _) | (with_reducible refine Kd.C_drewN ?_ _) | (with_reducible refine Kd.C_drew ?_))); (case side2 => exact (Kd.R_reads' HO227.out).2.1); rintro e w22 ⟨rfl, hb⟩; refine ⟨_, rfl, ?_⟩; have n0_ := Aside0.mk (Kd.R_below (by (with_reducible repeat (first | apply Kd.R_alloc | apply Kd.R_drewN | apply Kd.R_drew)); exact HO227.out) hb); have n1_ := Aside0.mk (Kd.R_below (by (with_reducible repeat (first | apply Kd.R_alloc | apply Kd.R_drewN | apply Kd.R_drew)); exact HO231.out) hb); have n2_ := Aside0.mk (Kd.R_below (by (with_reducible repeat (first | apply Kd.R_alloc | apply Kd.R_drewN | apply Kd.R_drew)); exact HO234.out) hb); have n3_ := Aside0.mk (blk_below (g := gb228) (by (with_reducible repeat (first | apply blk_drewN | apply blk_drew | apply blk_alloc)); exact BK228.out) hb); have n4_ := Aside0.mk (below_step (by with_reducible repeat (first | exact HB.out | apply below_alloc | apply pw_below_drewN | apply below_drew1 | refine below_set ?_ GE228.out)) hb); clear HO227; clear HO231; clear HO234; clear BK228; clear HB; have HO227 := n0_; have HO231 := n1_; have HO234 := n2_; have BK228 := n3_; have HB := n4_; clear n0_ n1_ n2_ n3_ n4_; (try clear hb); (try clear hb2); (try clear hk); (try clear hi); have hcz23_0 : w22.cell? ⟨gb228, 0, none⟩ = some (.int .i64 t224) := (blk_cell BK228.out 0).trans rfl; have hcz23_1 : w22.cell? ⟨gb228, 1, none⟩ = some (.slice Ao17 t225.length co17) := (blk_cell BK228.out 1).trans rfl; have hfz23_0 := blk_frozen BK228.out 0; have hfz23_1 := blk_frozen BK228.out 1) | ((with_reducible refine gate_callee (f := 9) rfl ?_); refine goesL_ (some 37) rfl rfl Try.func9 (by kernel_rfl) rfl #[.agg #[.int .i64 t224, .slice Ao17 t225.length co17]] rfl (by (try simp only [List.map_toArray, List.map_cons, List.map_nil]); first | done | rfl) ?_; (with_reducible refine (spec_SelfTimes.calls k t224 _ _ t225 t236 _ ?side1 ?side2 A8.out).mono ?_); (case side1 => repeat (first | exact (Kd.R_reads' HO227.out).2.2 | (with_reducible refine Kd.C_alloc ?_ _) | (with_reducible refine Kd.C_drewN ?_ _) | (with_reducible refine Kd.C_drew ?_))); (case side2 => exact (Kd.R_reads' HO227.out).2.1); rintro e w24 ⟨v237, rfl, ho0, hb⟩; refine ⟨_, rfl, ?_⟩; have n0_ := Aside0.mk (Kd.R_below (by (with_reducible repeat (first | apply Kd.R_alloc | apply Kd.R_drewN | apply Kd.R_drew)); exact HO227.out) hb); have n1_ := Aside0.mk (Kd.R_below (by (with_reducible repeat (first | apply Kd.R_alloc | apply Kd.R_drewN | apply Kd.R_drew)); exact HO231.out) hb); have n2_ := Aside0.mk (Kd.R_elder' (by (with_reducible repeat (first | apply Kd.R_alloc | apply Kd.R_drewN | apply Kd.R_drew)); exact HO234.out) (Kd.R_base ho0) hb); have n3_ := Aside0.mk (Kd.R_lower (Kd.R_new' ho0 (Kd.R_lt (by (with_reducible repeat (first | apply Kd.R_alloc | apply Kd.R_drewN | apply Kd.R_drew)); exact HO234.out))) (below_size (by with_reducible repeat (first | exact HB.out | apply below_alloc | apply pw_below_drewN | apply below_drew1 | refine below_set ?_ GE228.out)))); have n4_ := Aside0.mk (blk_below (g := gb228) (by (with_reducible repeat (first | apply blk_drewN | apply blk_drew | apply blk_alloc)); exact BK228.out) hb); have n5_ := Aside0.mk (below_step (by with_reducible repeat (first | exact HB.out | apply below_alloc | apply pw_below_drewN | apply below_drew1 | refine below_set ?_ GE228.out)) hb); clear HO227; clear HO231; clear HO234; clear BK228; clear HB; have HO227 := n0_; have HO231 := n1_; have HO234 := n2_; have HO238 := n3_; have BK228 := n4_; have HB := n5_; clear n0_ n1_ n2_ n3_ n4_ n5_; (try clear hb); (try clear hb2); (try clear hk); (try clear hi); (try clear ho0); obtain ⟨Ao25, co25, eo25⟩ := Kd.R_slice HO234.out; subst eo25; obtain ⟨Ao26, co26, eo26⟩ := Kd.R_slice HO238.out; subst eo26) | ((with_reducible refine gate_callee (f := 8) rfl ?_); refine goesL_ (some 38) rfl rfl Try.func8 (by kernel_rfl) rfl #[.slice Ao25 t232.length co25, .slice Ao26 t236.length co26] rfl (by (try simp only [List.map_toArray, List.map_cons, List.map_nil]); first | done | rfl) ?_; (with_reducible refine (laws_zInts.calls k _ _ t232 _ _ t236 true _ ?side1 ?side2 ?side3 ?side4 A9.out).mono ?_); (case side1 => repeat (first | exact (Kd.R_reads' HO234.out).2.2 | (with_reducible refine Kd.C_alloc ?_ _) | (with_reducible refine Kd.C_drewN ?_ _) | (with_reducible refine Kd.C_drew ?_))); (case side2 => exact (Kd.R_reads' HO234.out).2.1); (case side3 => repeat (first | exact (Kd.R_reads' HO238.out).2.2 | (with_reducible refine Kd.C_alloc ?_ _) | (with_reducible refine Kd.C_drewN ?_ _) | (with_reducible refine Kd.C_drew ?_))); (case side4 => exact (Kd.R_reads' HO238.out).2.1); rintro e w' ⟨rfl, ⟨nd, rfl⟩⟩; refine ⟨_, rfl, ?_⟩; have hcz27_0 : w24.cell? ⟨gb228, 0, none⟩ = some (.int .i64 t224) := (blk_cell BK228.out 0).trans rfl; have hcz27_1 : w24.cell? ⟨gb228, 1, none⟩ = some (.slice Ao17 t225.length co17) := (blk_cell BK228.out 1).trans rfl; have hfz27_0 := blk_frozen BK228.out 0; have hfz27_1 := blk_frozen BK228.out 1; have p240 : 0 ≤ (0 : Int) := (by omega); have q240 : 0 < (t225.length : Int) := of_decide_eq_true (by assumption); obtain ⟨ad240, e240, hx240_0, hx240_1, hx240_2, hx240_3, hx240_4, hx240_5, hx240_6⟩ := at_T34 (Kd.R_reads' HO227.out).2.2 0 p240 q240; cases e240; have qi240 : (0 < t225.length) = True := eq_true (by omega); (try rw [show ((0 : Int)).toNat = 0 from rfl] at hx240_0); (try rw [show 0 * 7 = 0 from rfl] at hx240_0); (try rw [Addr.add_zero'] at hx240_0); (try rw [show ((0 : Int)).toNat = 0 from rfl] at hx240_1); (try rw [show 0 * 7 = 0 from rfl] at hx240_1); (try rw [Addr.add_zero'] at hx240_1); (try rw [show ((0 : Int)).toNat = 0 from rfl] at hx240_2); (try rw [show 0 * 7 = 0 from rfl] at hx240_2); (try rw [Addr.add_zero'] at hx240_2); (try rw [show ((0 : Int)).toNat = 0 from rfl] at hx240_3); (try rw [show 0 * 7 = 0 from rfl] at hx240_3); (try rw [Addr.add_zero'] at hx240_3); (try rw [show ((0 : Int)).toNat = 0 from rfl] at hx240_4); (try rw [show 0 * 7 = 0 from rfl] at hx240_4); (try rw [Addr.add_zero'] at hx240_4); (try rw [show ((0 : Int)).toNat = 0 from rfl] at hx240_5); (try rw [show 0 * 7 = 0 from rfl] at hx240_5); (try rw [Addr.add_zero'] at hx240_5); (try rw [show ((0 : Int)).toNat = 0 from rfl] at hx240_6); (try rw [show 0 * 7 = 0 from rfl] at hx240_6); (try rw [Addr.add_zero'] at hx240_6); replace p240 := eq_true p240; replace q240 := eq_true q240) | ((with_reducible refine gate_dst (N := 48) rfl ?_); (try (refine gate_guard (by rfl) ?_; dsimp only)); refine Kd.R_make (Kd.int .i64) _ 3 rfl (N := 48) rfl 29 _ _ rfl (t225.length : Int) rfl rfl Try.underlying29 (.int .i64 0) 8 info3 rfl (by decide) (by omega) 0 (ok := fun _ => True) (okp := fun _ => True) rfl (fun _ hk => hk) trivial (of_decide_eq_true (by assumption)) (Nat.le_trans (Nat.mul_le_mul_right _ (of_decide_eq_true (by assumption) : (t225.length : Int).toNat ≤ 35184372088832)) (by omega)) (Below.refl _ _) (Nat.le_refl _) ?_; intro v242 w28 ho29 hb hg_ hnew_; clear hg_ hnew_; (first | rw [← Ny241.out] at ho29 | (simp only [Int.reduceToNat] at ho29; rw [← Ny241.out] at ho29)); have n0_ := Aside0.mk (Kd.R_below (by (with_reducible repeat (first | apply Kd.R_alloc | apply Kd.R_drewN | apply Kd.R_drew)); exact HO227.out) hb); have n1_ := Aside0.mk (Kd.R_below (by (with_reducible repeat (first | apply Kd.R_alloc | apply Kd.R_drewN | apply Kd.R_drew)); exact HO231.out) hb); have n2_ := Aside0.mk (Kd.R_elder' (by (with_reducible repeat (first | apply Kd.R_alloc | apply Kd.R_drewN | apply Kd.R_drew)); exact HO234.out) (Kd.R_base ho29) hb); have n3_ := Aside0.mk (Kd.R_elder' (by (with_reducible repeat (first | apply Kd.R_alloc | apply Kd.R_drewN | apply Kd.R_drew)); exact HO238.out) (Kd.R_base ho29) hb); have n4_ := Aside0.mk (Kd.R_lower (Kd.R_new' (Kd.R_new' ho29 (Kd.R_lt (by (with_reducible repeat (first | apply Kd.R_alloc | apply Kd.R_drewN | apply Kd.R_drew)); exact HO234.out))) (Kd.R_lt (by (with_reducible repeat (first | apply Kd.R_alloc | apply Kd.R_drewN | apply Kd.R_drew)); exact HO238.out))) (below_size (by with_reducible repeat (first | exact HB.out | apply below_alloc | apply pw_below_drewN | apply below_drew1 | refine below_set ?_ GE228.out)))); have n5_ := Aside0.mk (blk_below (g := gb228) (by (with_reducible repeat (first | apply blk_drewN | apply blk_drew | apply blk_alloc)); exact BK228.out) hb); have n6_ := Aside0.mk (below_step (by with_reducible repeat (first | exact HB.out | apply below_alloc | apply pw_below_drewN | apply below_drew1 | refine below_set ?_ GE228.out)) hb); clear HO227; clear HO231; clear HO234; clear HO238; clear BK228; clear HB; have HO227 := n0_; have HO231 := n1_; have HO234 := n2_; have HO238 := n3_; have HO243 := n4_; have BK228 := n5_; have HB := n6_; clear n0_ n1_ n2_ n3_ n4_ n5_ n6_; clear hb ho29; obtain ⟨Ao30, co30, eo30⟩ := Kd.R_slice HO231.out; subst eo30))
       go_loopg [6, 51] k (fun kq v6 v51 w' => ∃ (x6_1 : Int) (x7_1 : List Int) (x51_1 : Int), v6 = .int .i64 x6_1 ∧ v51 = .int .i64 x51_1 ∧ Aside0 (laws_FnCritical.l0 kq t232 x6_1 x7_1 t229 (t229.length : Int) x51_1 t224 t225 = some r) ∧ Aside0 (kq ≤ k) ∧ Aside0 (Kd.R (Kd.int .i64) 3 w' w.heap.size (fun k_ => some k_ ≠ (v242 : Value).ownBlock) (.slice Ao25 t232.length co25) t232) ∧ Aside0 (Kd.R (Kd.int .i64) 3 w' w.heap.size (fun k_ => some k_ ≠ ((.slice Ao25 t232.length co25) : Value).ownBlock) v242 x7_1) ∧ Aside0 (Kd.R k36 36 w' w.heap.size (fun _ => True) (.slice Ao30 t229.length co30) t229) ∧ Aside0 (Kd.R k34 34 w' w.heap.size (fun _ => True) (.slice (some ad240) t225.length co17) t225) ∧ Aside0 (w'.heap[gb228]? = some (.cells #[.int .i64 t224, (.slice (some ad240) t225.length co17)] 25 (0, 0))) ∧ Aside0 (Below w.heap.size w w'))
       case atStart => exact ⟨((rd_T34 t225 0).f4), (y241), (0), (by first | rfl | (simp; done) | (simp [*]; done)), (by first | rfl | (simp; done) | (simp [*]; done)), H', ⟨Nat.le_refl _⟩, ⟨by (with_reducible repeat (first | apply Kd.R_alloc | apply Kd.R_drewN | apply Kd.R_drew)); exact Kd.R_mono HO234.out (fun _ hk => hk.2)⟩, ⟨by (with_reducible repeat (first | apply Kd.R_alloc | apply Kd.R_drewN | apply Kd.R_drew)); exact Kd.R_mono HO243.out (fun _ hk => hk.1.2)⟩, ⟨by (with_reducible repeat (first | apply Kd.R_alloc | apply Kd.R_drewN | apply Kd.R_drew)); exact HO231.out⟩, ⟨by (with_reducible repeat (first | apply Kd.R_alloc | apply Kd.R_drewN | apply Kd.R_drew)); exact HO227.out⟩, ⟨by (with_reducible repeat (first | apply blk_drewN | apply blk_drew | apply blk_alloc)); exact BK228.out⟩, ⟨by with_reducible repeat (first | exact HB.out | apply below_alloc | apply pw_below_drewN | apply below_drew1 | refine below_set ?_ GE228.out)⟩⟩
       case round =>
        clear H'
        obtain ⟨x6_1, x7_1, x51_1, rfl, rfl, HA, HK1, HO_5, HO_7, HO_49, HO_229001, BK228, HB⟩ := hrel
        cases gk with
        | zero => exact absurd HA.out (by simp [laws_FnCritical.l0])
        | succ k1 =>
         have H := HA.out
         clear HA
         simp only [laws_FnCritical.l0] at H
         by_cases c31 : x51_1 < (t229.length : Int)
         ·rw [if_pos c31] at H
          have c31b0 : decide (x51_1 < (t229.length : Int)) = true := decide_eq_true c31
          clear c31
          by_cases c32 : 0 ≤ x51_1
          ·rw [if_pos c32] at H
           have c32b0 : decide (0 ≤ x51_1) = true := decide_eq_true c32
           clear c32
           by_cases c33 : x51_1 < (t229.length : Int)
           ·rw [if_pos c33] at H
            have c33b0 : decide (x51_1 < (t229.length : Int)) = true := decide_eq_true c33
            clear c33
            have H' := Aside0.mk H
            clear H
            have p244 : 0 ≤ (x51_1 : Int) := of_decide_eq_true (by assumption)
            have q244 : x51_1 < (t229.length : Int) := of_decide_eq_true (by assumption)
            obtain ⟨ad244, e244, hx244_0, hx244_1, hx244_2⟩ := at_T36 (Kd.R_reads' HO_49.out).2.2 x51_1 p244 q244
            cases e244
            replace p244 := eq_true p244
            replace q244 := eq_true q244
            go_wp2_with (first | ((with_reducible refine gate_dst (N := 9) rfl ?_); (try (refine gate_guard (by rfl) ?_; dsimp only)); refine box_event ?hg (N := 9) ?hd (cs := #[.int .i64 0, .int .i64 0, .int .i64 0]) (t := 36) ?hr ?_; (case hd => rfl); (case hg => rfl); (case hr => first | (go_simp; done) | (go_simp; rfl)); intro gb245 hg w34 hbox hb; have n0_ := Aside0.mk (Kd.R_below (by (with_reducible repeat (first | apply Kd.R_alloc | apply Kd.R_drewN | apply Kd.R_drew)); exact HO_5.out) hb); have n1_ := Aside0.mk (Kd.R_below (by (with_reducible repeat (first | apply Kd.R_alloc | apply Kd.R_drewN | apply Kd.R_drew)); exact HO_7.out) hb); have n2_ := Aside0.mk (Kd.R_below (Kd.R_elderB (by (with_reducible repeat (first | apply Kd.R_alloc | apply Kd.R_drewN | apply Kd.R_drew)); exact HO_49.out) gb245 (Nat.le_of_eq hg.symm)) hb); have n3_ := Aside0.mk (Kd.R_below (by (with_reducible repeat (first | apply Kd.R_alloc | apply Kd.R_drewN | apply Kd.R_drew)); exact HO_229001.out) hb); have n4_ := Aside0.mk (blk_below (g := gb228) (by (with_reducible repeat (first | apply blk_drewN | apply blk_drew | apply blk_alloc)); exact BK228.out) hb); have n5_ := Aside0.mk (below_step (by with_reducible repeat (first | exact HB.out | apply below_alloc | apply pw_below_drewN | apply below_drew1 | refine below_set ?_ GE228.out)) hb); have n6_ := Aside0.mk (hbox); have n7_ := Aside0.mk ((by rw [hg]; exact (below_size (by with_reducible repeat (first | exact HB.out | apply below_alloc | apply pw_below_drewN | apply below_drew1 | refine below_set ?_ GE228.out))) : w.heap.size ≤ gb245)); have n8_ := n7_; have n9_ := Aside0.mk ((by rw [hg]; exact Nat.ne_of_lt (blk_lt (g := gb228) (by (with_reducible repeat (first | apply blk_drewN | apply blk_drew | apply blk_alloc)); exact BK228.out)) : gb228 ≠ gb245)); have n10_ := Aside0.mk ((by rw [hg]; exact Nat.ne_of_gt (blk_lt (g := gb228) (by (with_reducible repeat (first | apply blk_drewN | apply blk_drew | apply blk_alloc)); exact BK228.out)) : gb245 ≠ gb228)); clear HO_5; clear HO_7; clear HO_49; clear HO_229001; clear BK228; clear HB; have HO_5 := n0_; have HO_7 := n1_; have HO_49 := n2_; have HO_229001 := n3_; have BK228 := n4_; have HB := n5_; have BK245 := n6_; have GW245 := n7_; have GE245 := n8_; have NB228_245 := n9_; have NB245_228 := n10_; clear n0_ n1_ n2_ n3_ n4_ n5_ n6_ n7_ n8_ n9_ n10_; clear hb hbox hg; have hnb35 := NB245_228.out; have hnc35 := NB228_245.out; have hcz36_0 : w34.cell? ⟨gb245, 0, none⟩ = some (.int .i64 0) := (blk_cell BK245.out 0).trans rfl; have hcz36_1 : w34.cell? ⟨gb245, 1, none⟩ = some (.int .i64 0) := (blk_cell BK245.out 1).trans rfl; have hcz36_2 : w34.cell? ⟨gb245, 2, none⟩ = some (.int .i64 0) := (blk_cell BK245.out 2).trans rfl; have hfz36_0 := blk_frozen BK245.out 0; have hfz36_1 := blk_frozen BK245.out 1; have hfz36_2 := blk_frozen BK245.out 2; have hcz37_0 : w34.cell? ⟨gb228, 0, none⟩ = some (.int .i64 t224) := (blk_cell BK228.out 0).trans rfl; have hcz37_1 : w34.cell? ⟨gb228, 1, none⟩ = some (.slice (some ad240) t225.length co17) := (blk_cell BK228.out 1).trans rfl; have hfz37_0 := blk_frozen BK228.out 0; have hfz37_1 := blk_frozen BK228.out 1))
            go_loopg [10, 58] k1 (fun kq v10 v58 w' => ∃ (x7_2 : List Int) (x10_2 : Bool) (x58_2 : Int), v10 = .bool x10_2 ∧ v58 = .int .i64 x58_2 ∧ Aside0 (laws_FnCritical.l1 kq t232 x6_1 x7_2 x10_2 t229 (t229.length : Int) x51_1 t225 (t225.length : Int) x58_2 t224 t225 ((rd_T36 t229 x51_1).f0) ((rd_T36 t229 x51_1).f1) ((rd_T36 t229 x51_1).f2) = some r) ∧ Aside0 (kq ≤ k1) ∧ Aside0 (Kd.R (Kd.int .i64) 3 w' w.heap.size (fun k_ => some k_ ≠ (v242 : Value).ownBlock) (.slice Ao25 t232.length co25) t232) ∧ Aside0 (Kd.R (Kd.int .i64) 3 w' w.heap.size (fun k_ => some k_ ≠ ((.slice Ao25 t232.length co25) : Value).ownBlock) v242 x7_2) ∧ Aside0 (Kd.R k36 36 w' w.heap.size (fun k_ => k_ ≠ gb245) (.slice (some ad244) t229.length co30) t229) ∧ Aside0 (Kd.R k34 34 w' w.heap.size (fun _ => True) (.slice (some ad240) t225.length co17) t225) ∧ Aside0 (Kd.R k34 34 w' w.heap.size (fun _ => True) (.slice (some ad240) t225.length co17) t225) ∧ Aside0 (w'.heap[gb228]? = some (.cells #[.int .i64 t224, (.slice (some ad240) t225.length co17)] 25 (0, 0))) ∧ Aside0 (w'.heap[gb245]? = some (.cells #[.int .i64 ((rd_T36 t229 x51_1).f0), .int .i64 ((rd_T36 t229 x51_1).f1), .int .i64 ((rd_T36 t229 x51_1).f2)] 36 (0, 0))) ∧ Aside0 (Below w.heap.size w w'))
            case atStart => exact ⟨(x7_1), (false), (0), (by first | rfl | (simp; done) | (simp [*]; done)), (by first | rfl | (simp; done) | (simp [*]; done)), H', ⟨Nat.le_refl _⟩, ⟨by (with_reducible repeat (first | apply Kd.R_alloc | apply Kd.R_drewN | apply Kd.R_drew)); exact Kd.R_mono (Kd.R_far (p := ⟨gb245, 2, none⟩) (Kd.R_far (p := ⟨gb245, 1, none⟩) (Kd.R_far (p := ⟨gb245, 0, none⟩) (Kd.R_types HO_5.out BK245.out (by decide)) (fun _ hk => hk.2) (.int .i64 ((rd_T36 t229 x51_1).f0))) (fun _ hk => hk.2) (.int .i64 ((rd_T36 t229 x51_1).f1))) (fun _ hk => hk.2) (.int .i64 ((rd_T36 t229 x51_1).f2))) (fun _ hk => hk.1)⟩, ⟨by (with_reducible repeat (first | apply Kd.R_alloc | apply Kd.R_drewN | apply Kd.R_drew)); exact Kd.R_mono (Kd.R_far (p := ⟨gb245, 2, none⟩) (Kd.R_far (p := ⟨gb245, 1, none⟩) (Kd.R_far (p := ⟨gb245, 0, none⟩) (Kd.R_types HO_7.out BK245.out (by decide)) (fun _ hk => hk.2) (.int .i64 ((rd_T36 t229 x51_1).f0))) (fun _ hk => hk.2) (.int .i64 ((rd_T36 t229 x51_1).f1))) (fun _ hk => hk.2) (.int .i64 ((rd_T36 t229 x51_1).f2))) (fun _ hk => hk.1)⟩, ⟨by (with_reducible repeat (first | apply Kd.R_alloc | apply Kd.R_drewN | apply Kd.R_drew)); exact Kd.R_mono (Kd.R_far (p := ⟨gb245, 2, none⟩) (Kd.R_far (p := ⟨gb245, 1, none⟩) (Kd.R_far (p := ⟨gb245, 0, none⟩) (Kd.R_mono HO_49.out (fun k_ hk => (⟨hk, hk.2⟩ : _ ∧ k_ ≠ gb245))) (fun _ hk => hk.2) (.int .i64 ((rd_T36 t229 x51_1).f0))) (fun _ hk => hk.2) (.int .i64 ((rd_T36 t229 x51_1).f1))) (fun _ hk => hk.2) (.int .i64 ((rd_T36 t229 x51_1).f2))) (fun _ hk => hk.1.2)⟩, ⟨by (with_reducible repeat (first | apply Kd.R_alloc | apply Kd.R_drewN | apply Kd.R_drew)); exact Kd.R_mono (Kd.R_far (p := ⟨gb245, 2, none⟩) (Kd.R_far (p := ⟨gb245, 1, none⟩) (Kd.R_far (p := ⟨gb245, 0, none⟩) (Kd.R_types HO_229001.out BK245.out (by decide)) (fun _ hk => hk.2) (.int .i64 ((rd_T36 t229 x51_1).f0))) (fun _ hk => hk.2) (.int .i64 ((rd_T36 t229 x51_1).f1))) (fun _ hk => hk.2) (.int .i64 ((rd_T36 t229 x51_1).f2))) (fun _ hk => trivial)⟩, ⟨by (with_reducible repeat (first | apply Kd.R_alloc | apply Kd.R_drewN | apply Kd.R_drew)); exact Kd.R_mono (Kd.R_far (p := ⟨gb245, 2, none⟩) (Kd.R_far (p := ⟨gb245, 1, none⟩) (Kd.R_far (p := ⟨gb245, 0, none⟩) (Kd.R_types HO_229001.out BK245.out (by decide)) (fun _ hk => hk.2) (.int .i64 ((rd_T36 t229 x51_1).f0))) (fun _ hk => hk.2) (.int .i64 ((rd_T36 t229 x51_1).f1))) (fun _ hk => hk.2) (.int .i64 ((rd_T36 t229 x51_1).f2))) (fun _ hk => trivial)⟩, ⟨by (with_reducible repeat (first | apply blk_drewN | apply blk_drew | apply blk_alloc)); refine blk_far ?_ NB228_245.out _; (with_reducible repeat (first | apply blk_drewN | apply blk_drew | apply blk_alloc)); refine blk_far ?_ NB228_245.out _; (with_reducible repeat (first | apply blk_drewN | apply blk_drew | apply blk_alloc)); refine blk_far ?_ NB228_245.out _; (with_reducible repeat (first | apply blk_drewN | apply blk_drew | apply blk_alloc)); exact BK228.out⟩, ⟨by (with_reducible repeat (first | apply blk_drewN | apply blk_drew | apply blk_alloc)); refine blk_put (cs := #[.int .i64 ((rd_T36 t229 x51_1).f0), .int .i64 ((rd_T36 t229 x51_1).f1), .int .i64 0]) ?_ 2 _ rfl; (with_reducible repeat (first | apply blk_drewN | apply blk_drew | apply blk_alloc)); refine blk_put (cs := #[.int .i64 ((rd_T36 t229 x51_1).f0), .int .i64 0, .int .i64 0]) ?_ 1 _ rfl; (with_reducible repeat (first | apply blk_drewN | apply blk_drew | apply blk_alloc)); refine blk_put (cs := #[.int .i64 0, .int .i64 0, .int .i64 0]) ?_ 0 _ rfl; (with_reducible repeat (first | apply blk_drewN | apply blk_drew | apply blk_alloc)); exact BK245.out⟩, ⟨by with_reducible repeat (first | exact HB.out | apply below_alloc | apply pw_below_drewN | apply below_drew1 | refine below_set ?_ GE228.out | refine below_set ?_ GE245.out)⟩⟩
            case round =>
             clear H'
             obtain ⟨x7_2, x10_2, x58_2, rfl, rfl, HA, HK2, HO_5, HO_7, HO_49, HO_56, HO_229001, BK228, BK245, HB⟩ := hrel
             cases gk with
             | zero => exact absurd HA.out (by simp [laws_FnCritical.l1])
             | succ k2 =>
              have H := HA.out
              clear HA
              simp only [laws_FnCritical.l1] at H
              by_cases c38 : x58_2 < (t225.length : Int)
              ·rw [if_pos c38] at H
               have c38b0 : decide (x58_2 < (t225.length : Int)) = true := decide_eq_true c38
               clear c38
               by_cases c39 : 0 ≤ x58_2
               ·rw [if_pos c39] at H
                have c39b0 : decide (0 ≤ x58_2) = true := decide_eq_true c39
                clear c39
                by_cases c40 : x58_2 < (t225.length : Int)
                ·rw [if_pos c40] at H
                 have c40b0 : decide (x58_2 < (t225.length : Int)) = true := decide_eq_true c40
                 clear c40
                 by_cases c41 : ((rd_T34 t225 x58_2).f0) = ((rd_T36 t229 x51_1).f0)
                 ·rw [if_pos c41] at H
                  have c41b0 : (((rd_T34 t225 x58_2).f0) == ((rd_T36 t229 x51_1).f0)) = true := beq_iff_eq.mpr c41
                  have c41b1 : (((rd_T34 t225 x58_2).f0) != ((rd_T36 t229 x51_1).f0)) = false := bne_eq_false_iff_eq.mpr c41
                  clear c41
                  by_cases c42 : ((rd_T36 t229 x51_1).f1) ≥ ((rd_T34 t225 x58_2).f4)
                  ·rw [if_pos c42] at H
                   have c42b0 : decide (((rd_T34 t225 x58_2).f4) ≤ ((rd_T36 t229 x51_1).f1)) = true := decide_eq_true c42
                   clear c42
                   by_cases c43 : x58_2 < (x7_2.length : Int)
                   ·rw [if_pos c43] at H
                    have c43b0 : decide (x58_2 < (x7_2.length : Int)) = true := decide_eq_true c43
                    clear c43
                    obtain ⟨y249, hy249⟩ : ∃ y_ : List Int, y_ = (x7_2.set (x58_2 : Int).toNat (wrap64 ((rd x7_2 x58_2) + (wrap64 (((rd_T36 t229 x51_1).f2) - ((rd_T36 t229 x51_1).f1)))))) := ⟨_, rfl⟩
                    replace H : (laws_FnCritical.l1 k2 t232 x6_1 y249 (decide (((rd_T36 t229 x51_1).f2) ≤ ((rd_T34 t225 x58_2).f5))) t229 (t229.length : Int) x51_1 t225 (t225.length : Int) (wrap64 (x58_2 + 1)) t224 t225 ((rd_T36 t229 x51_1).f0) ((rd_T36 t229 x51_1).f1) ((rd_T36 t229 x51_1).f2)) = some r := by first | (rw [hy249]; with_reducible exact H) | (have H2_ := (Option.bind_some _ _).symm.trans H; rw [hy249]; with_reducible exact H2_) | (have H2_ := (Option.bind_some _ _).symm.trans H; with_reducible exact H2_) | with_reducible exact H | (rw [hy249]; exact H) | exact H
                    have Ny249 := Aside0.mk hy249
                    clear hy249
                    have H' := Aside0.mk H
                    clear H
                    have p246 : 0 ≤ (x58_2 : Int) := of_decide_eq_true (by assumption)
                    have q246 : x58_2 < (t225.length : Int) := of_decide_eq_true (by assumption)
                    obtain ⟨ad246, e246, hx246_0, hx246_1, hx246_2, hx246_3, hx246_4, hx246_5, hx246_6⟩ := at_T34 (Kd.R_reads' HO_56.out).2.2 x58_2 p246 q246
                    obtain rfl : ad240 = ad246 := (by injection e246)
                    replace p246 := eq_true p246
                    replace q246 := eq_true q246
                    try go_wp2_with (first | ((with_reducible refine gate_dst (N := 12) rfl ?_); (try (refine gate_guard (by rfl) ?_; dsimp only)); refine box_event ?hg (N := 12) ?hd (cs := #[.int .i64 0, .int .i64 0, .string ⟨#[]⟩, .string ⟨#[]⟩, .int .i64 0, .int .i64 0, .bool false]) (t := 34) ?hr ?_; (case hd => rfl); (case hg => rfl); (case hr => first | (go_simp; done) | (go_simp; rfl)); intro gb247 hg w45 hbox hb; have n0_ := Aside0.mk (Kd.R_below (by (with_reducible repeat (first | apply Kd.R_alloc | apply Kd.R_drewN | apply Kd.R_drew)); exact HO_5.out) hb); have n1_ := Aside0.mk (Kd.R_below (by (with_reducible repeat (first | apply Kd.R_alloc | apply Kd.R_drewN | apply Kd.R_drew)); exact HO_7.out) hb); have n2_ := Aside0.mk (Kd.R_below (by (with_reducible repeat (first | apply Kd.R_alloc | apply Kd.R_drewN | apply Kd.R_drew)); exact HO_49.out) hb); have n3_ := Aside0.mk (Kd.R_below (Kd.R_elderB (by (with_reducible repeat (first | apply Kd.R_alloc | apply Kd.R_drewN | apply Kd.R_drew)); exact HO_56.out) gb247 (Nat.le_of_eq hg.symm)) hb); have n4_ := Aside0.mk (Kd.R_below (Kd.R_elderB (by (with_reducible repeat (first | apply Kd.R_alloc | apply Kd.R_drewN | apply Kd.R_drew)); exact HO_229001.out) gb247 (Nat.le_of_eq hg.symm)) hb); have n5_ := Aside0.mk (blk_below (g := gb228) (by (with_reducible repeat (first | apply blk_drewN | apply blk_drew | apply blk_alloc)); exact BK228.out) hb); have n6_ := Aside0.mk (blk_below (g := gb245) (by (with_reducible repeat (first | apply blk_drewN | apply blk_drew | apply blk_alloc)); exact BK245.out) hb); have n7_ := Aside0.mk (below_step (by with_reducible repeat (first | exact HB.out | apply below_alloc | apply pw_below_drewN | apply below_drew1 | refine below_set ?_ GE228.out | refine below_set ?_ GE245.out)) hb); have n8_ := Aside0.mk (hbox); have n9_ := Aside0.mk ((by rw [hg]; exact (below_size (by with_reducible repeat (first | exact HB.out | apply below_alloc | apply pw_below_drewN | apply below_drew1 | refine below_set ?_ GE228.out | refine below_set ?_ GE245.out))) : w.heap.size ≤ gb247)); have n10_ := n9_; have n11_ := Aside0.mk ((by rw [hg]; exact Nat.ne_of_lt (blk_lt (g := gb228) (by (with_reducible repeat (first | apply blk_drewN | apply blk_drew | apply blk_alloc)); exact BK228.out)) : gb228 ≠ gb247)); have n12_ := Aside0.mk ((by rw [hg]; exact Nat.ne_of_gt (blk_lt (g := gb228) (by (with_reducible repeat (first | apply blk_drewN | apply blk_drew | apply blk_alloc)); exact BK228.out)) : gb247 ≠ gb228)); have n13_ := Aside0.mk ((by rw [hg]; exact Nat.ne_of_lt (blk_lt (g := gb245) (by (with_reducible repeat (first | apply blk_drewN | apply blk_drew | apply blk_alloc)); exact BK245.out)) : gb245 ≠ gb247)); have n14_ := Aside0.mk ((by rw [hg]; exact Nat.ne_of_gt (blk_lt (g := gb245) (by (with_reducible repeat (first | apply blk_drewN | apply blk_drew | apply blk_alloc)); exact BK245.out)) : gb247 ≠ gb245)); clear HO_5; clear HO_7; clear HO_49; clear HO_56; clear HO_229001; clear BK228; clear BK245; clear HB; have HO_5 := n0_; have HO_7 := n1_; have HO_49 := n2_; have HO_56 := n3_; have HO_229001 := n4_; have BK228 := n5_; have BK245 := n6_; have HB := n7_; have BK247 := n8_; have GW247 := n9_; have GE247 := n10_; have NB228_247 := n11_; have NB247_228 := n12_; have NB245_247 := n13_; have NB247_245 := n14_; clear n0_ n1_ n2_ n3_ n4_ n5_ n6_ n7_ n8_ n9_ n10_ n11_ n12_ n13_ n14_; clear hb hbox hg; have hnb46 := NB247_228.out; have hnc46 := NB228_247.out; have hnb47 := NB247_245.out; have hnc47 := NB245_247.out; have hcz48_0 : w45.cell? ⟨gb247, 0, none⟩ = some (.int .i64 0) := (blk_cell BK247.out 0).trans rfl; have hcz48_1 : w45.cell? ⟨gb247, 1, none⟩ = some (.int .i64 0) := (blk_cell BK247.out 1).trans rfl; have hcz48_2 : w45.cell? ⟨gb247, 2, none⟩ = some (.string ⟨#[]⟩) := (blk_cell BK247.out 2).trans rfl; have hcz48_3 : w45.cell? ⟨gb247, 3, none⟩ = some (.string ⟨#[]⟩) := (blk_cell BK247.out 3).trans rfl; have hcz48_4 : w45.cell? ⟨gb247, 4, none⟩ = some (.int .i64 0) := (blk_cell BK247.out 4).trans rfl; have hcz48_5 : w45.cell? ⟨gb247, 5, none⟩ = some (.int .i64 0) := (blk_cell BK247.out 5).trans rfl; have hcz48_6 : w45.cell? ⟨gb247, 6, none⟩ = some (.bool false) := (blk_cell BK247.out 6).trans rfl; have hfz48_0 := blk_frozen BK247.out 0; have hfz48_1 := blk_frozen BK247.out 1; have hfz48_2 := blk_frozen BK247.out 2; have hfz48_3 := blk_frozen BK247.out 3; have hfz48_4 := blk_frozen BK247.out 4; have hfz48_5 := blk_frozen BK247.out 5; have hfz48_6 := blk_frozen BK247.out 6; have hnb49 := NB245_228.out; have hnc49 := NB228_245.out; have hcz50_0 : w45.cell? ⟨gb245, 0, none⟩ = some (.int .i64 ((rd_T36 t229 x51_1).f0)) := (blk_cell BK245.out 0).trans rfl; have hcz50_1 : w45.cell? ⟨gb245, 1, none⟩ = some (.int .i64 ((rd_T36 t229 x51_1).f1)) := (blk_cell BK245.out 1).trans rfl; have hcz50_2 : w45.cell? ⟨gb245, 2, none⟩ = some (.int .i64 ((rd_T36 t229 x51_1).f2)) := (blk_cell BK245.out 2).trans rfl; have hfz50_0 := blk_frozen BK245.out 0; have hfz50_1 := blk_frozen BK245.out 1; have hfz50_2 := blk_frozen BK245.out 2))
                    have n0_ : Aside0 (Kd.R (Kd.int .i64) 3 (((((((w45.setCell ⟨gb247, 0, none⟩ (.int .i64 ((rd_T34 t225 x58_2).f0))).setCell ⟨gb247, 1, none⟩ (.int .i64 ((rd_T34 t225 x58_2).f1))).setCell ⟨gb247, 2, none⟩ (.string ((rd_T34 t225 x58_2).f2))).setCell ⟨gb247, 3, none⟩ (.string ((rd_T34 t225 x58_2).f3))).setCell ⟨gb247, 4, none⟩ (.int .i64 ((rd_T34 t225 x58_2).f4))).setCell ⟨gb247, 5, none⟩ (.int .i64 ((rd_T34 t225 x58_2).f5))).setCell ⟨gb247, 6, none⟩ (.bool ((rd_T34 t225 x58_2).f6))) w.heap.size (fun k_ => some k_ ≠ (v242 : Value).ownBlock) (.slice Ao25 t232.length co25) t232) := ⟨by (with_reducible repeat (first | apply Kd.R_alloc | apply Kd.R_drewN | apply Kd.R_drew)); exact Kd.R_mono (Kd.R_far (p := ⟨gb247, 6, none⟩) (Kd.R_far (p := ⟨gb247, 5, none⟩) (Kd.R_far (p := ⟨gb247, 4, none⟩) (Kd.R_far (p := ⟨gb247, 3, none⟩) (Kd.R_far (p := ⟨gb247, 2, none⟩) (Kd.R_far (p := ⟨gb247, 1, none⟩) (Kd.R_far (p := ⟨gb247, 0, none⟩) (Kd.R_types HO_5.out BK247.out (by decide)) (fun _ hk => hk.2) (.int .i64 ((rd_T34 t225 x58_2).f0))) (fun _ hk => hk.2) (.int .i64 ((rd_T34 t225 x58_2).f1))) (fun _ hk => hk.2) (.string ((rd_T34 t225 x58_2).f2))) (fun _ hk => hk.2) (.string ((rd_T34 t225 x58_2).f3))) (fun _ hk => hk.2) (.int .i64 ((rd_T34 t225 x58_2).f4))) (fun _ hk => hk.2) (.int .i64 ((rd_T34 t225 x58_2).f5))) (fun _ hk => hk.2) (.bool ((rd_T34 t225 x58_2).f6))) (fun _ hk => hk.1)⟩
                    have n1_ : Aside0 (Kd.R (Kd.int .i64) 3 (((((((w45.setCell ⟨gb247, 0, none⟩ (.int .i64 ((rd_T34 t225 x58_2).f0))).setCell ⟨gb247, 1, none⟩ (.int .i64 ((rd_T34 t225 x58_2).f1))).setCell ⟨gb247, 2, none⟩ (.string ((rd_T34 t225 x58_2).f2))).setCell ⟨gb247, 3, none⟩ (.string ((rd_T34 t225 x58_2).f3))).setCell ⟨gb247, 4, none⟩ (.int .i64 ((rd_T34 t225 x58_2).f4))).setCell ⟨gb247, 5, none⟩ (.int .i64 ((rd_T34 t225 x58_2).f5))).setCell ⟨gb247, 6, none⟩ (.bool ((rd_T34 t225 x58_2).f6))) w.heap.size (fun k_ => some k_ ≠ (.slice Ao25 t232.length co25 : Value).ownBlock) v242 x7_2) := ⟨by (with_reducible repeat (first | apply Kd.R_alloc | apply Kd.R_drewN | apply Kd.R_drew)); exact Kd.R_mono (Kd.R_far (p := ⟨gb247, 6, none⟩) (Kd.R_far (p := ⟨gb247, 5, none⟩) (Kd.R_far (p := ⟨gb247, 4, none⟩) (Kd.R_far (p := ⟨gb247, 3, none⟩) (Kd.R_far (p := ⟨gb247, 2, none⟩) (Kd.R_far (p := ⟨gb247, 1, none⟩) (Kd.R_far (p := ⟨gb247, 0, none⟩) (Kd.R_types HO_7.out BK247.out (by decide)) (fun _ hk => hk.2) (.int .i64 ((rd_T34 t225 x58_2).f0))) (fun _ hk => hk.2) (.int .i64 ((rd_T34 t225 x58_2).f1))) (fun _ hk => hk.2) (.string ((rd_T34 t225 x58_2).f2))) (fun _ hk => hk.2) (.string ((rd_T34 t225 x58_2).f3))) (fun _ hk => hk.2) (.int .i64 ((rd_T34 t225 x58_2).f4))) (fun _ hk => hk.2) (.int .i64 ((rd_T34 t225 x58_2).f5))) (fun _ hk => hk.2) (.bool ((rd_T34 t225 x58_2).f6))) (fun _ hk => hk.1)⟩
                    have n2_ : Aside0 (Kd.R k36 36 (((((((w45.setCell ⟨gb247, 0, none⟩ (.int .i64 ((rd_T34 t225 x58_2).f0))).setCell ⟨gb247, 1, none⟩ (.int .i64 ((rd_T34 t225 x58_2).f1))).setCell ⟨gb247, 2, none⟩ (.string ((rd_T34 t225 x58_2).f2))).setCell ⟨gb247, 3, none⟩ (.string ((rd_T34 t225 x58_2).f3))).setCell ⟨gb247, 4, none⟩ (.int .i64 ((rd_T34 t225 x58_2).f4))).setCell ⟨gb247, 5, none⟩ (.int .i64 ((rd_T34 t225 x58_2).f5))).setCell ⟨gb247, 6, none⟩ (.bool ((rd_T34 t225 x58_2).f6))) w.heap.size (fun k_ => k_ ≠ gb245) (.slice (some ad244) t229.length co30) t229) := ⟨by (with_reducible repeat (first | apply Kd.R_alloc | apply Kd.R_drewN | apply Kd.R_drew)); exact Kd.R_mono (Kd.R_far (p := ⟨gb247, 6, none⟩) (Kd.R_far (p := ⟨gb247, 5, none⟩) (Kd.R_far (p := ⟨gb247, 4, none⟩) (Kd.R_far (p := ⟨gb247, 3, none⟩) (Kd.R_far (p := ⟨gb247, 2, none⟩) (Kd.R_far (p := ⟨gb247, 1, none⟩) (Kd.R_far (p := ⟨gb247, 0, none⟩) (Kd.R_types HO_49.out BK247.out (by decide)) (fun _ hk => hk.2) (.int .i64 ((rd_T34 t225 x58_2).f0))) (fun _ hk => hk.2) (.int .i64 ((rd_T34 t225 x58_2).f1))) (fun _ hk => hk.2) (.string ((rd_T34 t225 x58_2).f2))) (fun _ hk => hk.2) (.string ((rd_T34 t225 x58_2).f3))) (fun _ hk => hk.2) (.int .i64 ((rd_T34 t225 x58_2).f4))) (fun _ hk => hk.2) (.int .i64 ((rd_T34 t225 x58_2).f5))) (fun _ hk => hk.2) (.bool ((rd_T34 t225 x58_2).f6))) (fun _ hk => hk.1)⟩
                    have n3_ : Aside0 (Kd.R k34 34 (((((((w45.setCell ⟨gb247, 0, none⟩ (.int .i64 ((rd_T34 t225 x58_2).f0))).setCell ⟨gb247, 1, none⟩ (.int .i64 ((rd_T34 t225 x58_2).f1))).setCell ⟨gb247, 2, none⟩ (.string ((rd_T34 t225 x58_2).f2))).setCell ⟨gb247, 3, none⟩ (.string ((rd_T34 t225 x58_2).f3))).setCell ⟨gb247, 4, none⟩ (.int .i64 ((rd_T34 t225 x58_2).f4))).setCell ⟨gb247, 5, none⟩ (.int .i64 ((rd_T34 t225 x58_2).f5))).setCell ⟨gb247, 6, none⟩ (.bool ((rd_T34 t225 x58_2).f6))) w.heap.size (fun k_ => k_ ≠ gb247) (.slice (some ad240) t225.length co17) t225) := ⟨by (with_reducible repeat (first | apply Kd.R_alloc | apply Kd.R_drewN | apply Kd.R_drew)); exact Kd.R_mono (Kd.R_far (p := ⟨gb247, 6, none⟩) (Kd.R_far (p := ⟨gb247, 5, none⟩) (Kd.R_far (p := ⟨gb247, 4, none⟩) (Kd.R_far (p := ⟨gb247, 3, none⟩) (Kd.R_far (p := ⟨gb247, 2, none⟩) (Kd.R_far (p := ⟨gb247, 1, none⟩) (Kd.R_far (p := ⟨gb247, 0, none⟩) (Kd.R_mono HO_56.out (fun k_ hk => (⟨hk, hk.2⟩ : _ ∧ k_ ≠ gb247))) (fun _ hk => hk.2) (.int .i64 ((rd_T34 t225 x58_2).f0))) (fun _ hk => hk.2) (.int .i64 ((rd_T34 t225 x58_2).f1))) (fun _ hk => hk.2) (.string ((rd_T34 t225 x58_2).f2))) (fun _ hk => hk.2) (.string ((rd_T34 t225 x58_2).f3))) (fun _ hk => hk.2) (.int .i64 ((rd_T34 t225 x58_2).f4))) (fun _ hk => hk.2) (.int .i64 ((rd_T34 t225 x58_2).f5))) (fun _ hk => hk.2) (.bool ((rd_T34 t225 x58_2).f6))) (fun _ hk => hk.1.2)⟩
                    have n4_ : Aside0 (Kd.R k34 34 (((((((w45.setCell ⟨gb247, 0, none⟩ (.int .i64 ((rd_T34 t225 x58_2).f0))).setCell ⟨gb247, 1, none⟩ (.int .i64 ((rd_T34 t225 x58_2).f1))).setCell ⟨gb247, 2, none⟩ (.string ((rd_T34 t225 x58_2).f2))).setCell ⟨gb247, 3, none⟩ (.string ((rd_T34 t225 x58_2).f3))).setCell ⟨gb247, 4, none⟩ (.int .i64 ((rd_T34 t225 x58_2).f4))).setCell ⟨gb247, 5, none⟩ (.int .i64 ((rd_T34 t225 x58_2).f5))).setCell ⟨gb247, 6, none⟩ (.bool ((rd_T34 t225 x58_2).f6))) w.heap.size (fun k_ => k_ ≠ gb247) (.slice (some ad240) t225.length co17) t225) := ⟨by (with_reducible repeat (first | apply Kd.R_alloc | apply Kd.R_drewN | apply Kd.R_drew)); exact Kd.R_mono (Kd.R_far (p := ⟨gb247, 6, none⟩) (Kd.R_far (p := ⟨gb247, 5, none⟩) (Kd.R_far (p := ⟨gb247, 4, none⟩) (Kd.R_far (p := ⟨gb247, 3, none⟩) (Kd.R_far (p := ⟨gb247, 2, none⟩) (Kd.R_far (p := ⟨gb247, 1, none⟩) (Kd.R_far (p := ⟨gb247, 0, none⟩) (Kd.R_mono HO_229001.out (fun k_ hk => (⟨hk, hk.2⟩ : _ ∧ k_ ≠ gb247))) (fun _ hk => hk.2) (.int .i64 ((rd_T34 t225 x58_2).f0))) (fun _ hk => hk.2) (.int .i64 ((rd_T34 t225 x58_2).f1))) (fun _ hk => hk.2) (.string ((rd_T34 t225 x58_2).f2))) (fun _ hk => hk.2) (.string ((rd_T34 t225 x58_2).f3))) (fun _ hk => hk.2) (.int .i64 ((rd_T34 t225 x58_2).f4))) (fun _ hk => hk.2) (.int .i64 ((rd_T34 t225 x58_2).f5))) (fun _ hk => hk.2) (.bool ((rd_T34 t225 x58_2).f6))) (fun _ hk => hk.1.2)⟩
                    have n5_ : Aside0 ((((((((w45.setCell ⟨gb247, 0, none⟩ (.int .i64 ((rd_T34 t225 x58_2).f0))).setCell ⟨gb247, 1, none⟩ (.int .i64 ((rd_T34 t225 x58_2).f1))).setCell ⟨gb247, 2, none⟩ (.string ((rd_T34 t225 x58_2).f2))).setCell ⟨gb247, 3, none⟩ (.string ((rd_T34 t225 x58_2).f3))).setCell ⟨gb247, 4, none⟩ (.int .i64 ((rd_T34 t225 x58_2).f4))).setCell ⟨gb247, 5, none⟩ (.int .i64 ((rd_T34 t225 x58_2).f5))).setCell ⟨gb247, 6, none⟩ (.bool ((rd_T34 t225 x58_2).f6))).heap[gb228]? = some (.cells #[.int .i64 t224, .slice (some ad240) t225.length co17] 25 (0, 0))) := ⟨by (with_reducible repeat (first | apply blk_drewN | apply blk_drew | apply blk_alloc)); refine blk_far ?_ NB228_247.out _; (with_reducible repeat (first | apply blk_drewN | apply blk_drew | apply blk_alloc)); refine blk_far ?_ NB228_247.out _; (with_reducible repeat (first | apply blk_drewN | apply blk_drew | apply blk_alloc)); refine blk_far ?_ NB228_247.out _; (with_reducible repeat (first | apply blk_drewN | apply blk_drew | apply blk_alloc)); refine blk_far ?_ NB228_247.out _; (with_reducible repeat (first | apply blk_drewN | apply blk_drew | apply blk_alloc)); refine blk_far ?_ NB228_247.out _; (with_reducible repeat (first | apply blk_drewN | apply blk_drew | apply blk_alloc)); refine blk_far ?_ NB228_247.out _; (with_reducible repeat (first | apply blk_drewN | apply blk_drew | apply blk_alloc)); refine blk_far ?_ NB228_247.out _; (with_reducible repeat (first | apply blk_drewN | apply blk_drew | apply blk_alloc)); exact BK228.out⟩
                    have n6_ : Aside0 ((((((((w45.setCell ⟨gb247, 0, none⟩ (.int .i64 ((rd_T34 t225 x58_2).f0))).setCell ⟨gb247, 1, none⟩ (.int .i64 ((rd_T34 t225 x58_2).f1))).setCell ⟨gb247, 2, none⟩ (.string ((rd_T34 t225 x58_2).f2))).setCell ⟨gb247, 3, none⟩ (.string ((rd_T34 t225 x58_2).f3))).setCell ⟨gb247, 4, none⟩ (.int .i64 ((rd_T34 t225 x58_2).f4))).setCell ⟨gb247, 5, none⟩ (.int .i64 ((rd_T34 t225 x58_2).f5))).setCell ⟨gb247, 6, none⟩ (.bool ((rd_T34 t225 x58_2).f6))).heap[gb245]? = some (.cells #[.int .i64 ((rd_T36 t229 x51_1).f0), .int .i64 ((rd_T36 t229 x51_1).f1), .int .i64 ((rd_T36 t229 x51_1).f2)] 36 (0, 0))) := ⟨by (with_reducible repeat (first | apply blk_drewN | apply blk_drew | apply blk_alloc)); refine blk_far ?_ NB245_247.out _; (with_reducible repeat (first | apply blk_drewN | apply blk_drew | apply blk_alloc)); refine blk_far ?_ NB245_247.out _; (with_reducible repeat (first | apply blk_drewN | apply blk_drew | apply blk_alloc)); refine blk_far ?_ NB245_247.out _; (with_reducible repeat (first | apply blk_drewN | apply blk_drew | apply blk_alloc)); refine blk_far ?_ NB245_247.out _; (with_reducible repeat (first | apply blk_drewN | apply blk_drew | apply blk_alloc)); refine blk_far ?_ NB245_247.out _; (with_reducible repeat (first | apply blk_drewN | apply blk_drew | apply blk_alloc)); refine blk_far ?_ NB245_247.out _; (with_reducible repeat (first | apply blk_drewN | apply blk_drew | apply blk_alloc)); refine blk_far ?_ NB245_247.out _; (with_reducible repeat (first | apply blk_drewN | apply blk_drew | apply blk_alloc)); exact BK245.out⟩
                    have n7_ : Aside0 ((((((((w45.setCell ⟨gb247, 0, none⟩ (.int .i64 ((rd_T34 t225 x58_2).f0))).setCell ⟨gb247, 1, none⟩ (.int .i64 ((rd_T34 t225 x58_2).f1))).setCell ⟨gb247, 2, none⟩ (.string ((rd_T34 t225 x58_2).f2))).setCell ⟨gb247, 3, none⟩ (.string ((rd_T34 t225 x58_2).f3))).setCell ⟨gb247, 4, none⟩ (.int .i64 ((rd_T34 t225 x58_2).f4))).setCell ⟨gb247, 5, none⟩ (.int .i64 ((rd_T34 t225 x58_2).f5))).setCell ⟨gb247, 6, none⟩ (.bool ((rd_T34 t225 x58_2).f6))).heap[gb247]? = some (.cells #[.int .i64 ((rd_T34 t225 x58_2).f0), .int .i64 ((rd_T34 t225 x58_2).f1), .string ((rd_T34 t225 x58_2).f2), .string ((rd_T34 t225 x58_2).f3), .int .i64 ((rd_T34 t225 x58_2).f4), .int .i64 ((rd_T34 t225 x58_2).f5), .bool ((rd_T34 t225 x58_2).f6)] 34 (0, 0))) := ⟨by (with_reducible repeat (first | apply blk_drewN | apply blk_drew | apply blk_alloc)); refine blk_put (cs := #[.int .i64 ((rd_T34 t225 x58_2).f0), .int .i64 ((rd_T34 t225 x58_2).f1), .string ((rd_T34 t225 x58_2).f2), .string ((rd_T34 t225 x58_2).f3), .int .i64 ((rd_T34 t225 x58_2).f4), .int .i64 ((rd_T34 t225 x58_2).f5), .bool false]) ?_ 6 _ rfl; (with_reducible repeat (first | apply blk_drewN | apply blk_drew | apply blk_alloc)); refine blk_put (cs := #[.int .i64 ((rd_T34 t225 x58_2).f0), .int .i64 ((rd_T34 t225 x58_2).f1), .string ((rd_T34 t225 x58_2).f2), .string ((rd_T34 t225 x58_2).f3), .int .i64 ((rd_T34 t225 x58_2).f4), .int .i64 0, .bool false]) ?_ 5 _ rfl; (with_reducible repeat (first | apply blk_drewN | apply blk_drew | apply blk_alloc)); refine blk_put (cs := #[.int .i64 ((rd_T34 t225 x58_2).f0), .int .i64 ((rd_T34 t225 x58_2).f1), .string ((rd_T34 t225 x58_2).f2), .string ((rd_T34 t225 x58_2).f3), .int .i64 0, .int .i64 0, .bool false]) ?_ 4 _ rfl; (with_reducible repeat (first | apply blk_drewN | apply blk_drew | apply blk_alloc)); refine blk_put (cs := #[.int .i64 ((rd_T34 t225 x58_2).f0), .int .i64 ((rd_T34 t225 x58_2).f1), .string ((rd_T34 t225 x58_2).f2), .string ⟨#[]⟩, .int .i64 0, .int .i64 0, .bool false]) ?_ 3 _ rfl; (with_reducible repeat (first | apply blk_drewN | apply blk_drew | apply blk_alloc)); refine blk_put (cs := #[.int .i64 ((rd_T34 t225 x58_2).f0), .int .i64 ((rd_T34 t225 x58_2).f1), .string ⟨#[]⟩, .string ⟨#[]⟩, .int .i64 0, .int .i64 0, .bool false]) ?_ 2 _ rfl; (with_reducible repeat (first | apply blk_drewN | apply blk_drew | apply blk_alloc)); refine blk_put (cs := #[.int .i64 ((rd_T34 t225 x58_2).f0), .int .i64 0, .string ⟨#[]⟩, .string ⟨#[]⟩, .int .i64 0, .int .i64 0, .bool false]) ?_ 1 _ rfl; (with_reducible repeat (first | apply blk_drewN | apply blk_drew | apply blk_alloc)); refine blk_put (cs := #[.int .i64 0, .int .i64 0, .string ⟨#[]⟩, .string ⟨#[]⟩, .int .i64 0, .int .i64 0, .bool false]) ?_ 0 _ rfl; (with_reducible repeat (first | apply blk_drewN | apply blk_drew | apply blk_alloc)); exact BK247.out⟩
                    have n8_ : Aside0 (Below w.heap.size w (((((((w45.setCell ⟨gb247, 0, none⟩ (.int .i64 ((rd_T34 t225 x58_2).f0))).setCell ⟨gb247, 1, none⟩ (.int .i64 ((rd_T34 t225 x58_2).f1))).setCell ⟨gb247, 2, none⟩ (.string ((rd_T34 t225 x58_2).f2))).setCell ⟨gb247, 3, none⟩ (.string ((rd_T34 t225 x58_2).f3))).setCell ⟨gb247, 4, none⟩ (.int .i64 ((rd_T34 t225 x58_2).f4))).setCell ⟨gb247, 5, none⟩ (.int .i64 ((rd_T34 t225 x58_2).f5))).setCell ⟨gb247, 6, none⟩ (.bool ((rd_T34 t225 x58_2).f6)))) := ⟨by with_reducible repeat (first | exact HB.out | apply below_alloc | apply pw_below_drewN | apply below_drew1 | refine below_set ?_ GE228.out | refine below_set ?_ GE245.out | refine below_set ?_ GE247.out)⟩
                    (try clear HO_5)
                    (try clear HO_7)
                    (try clear HO_49)
                    (try clear HO_56)
                    (try clear HO_229001)
                    (try clear BK228)
                    (try clear BK245)
                    (try clear BK247)
                    (try clear HB)
                    generalize (((((((w45.setCell ⟨gb247, 0, none⟩ (.int .i64 ((rd_T34 t225 x58_2).f0))).setCell ⟨gb247, 1, none⟩ (.int .i64 ((rd_T34 t225 x58_2).f1))).setCell ⟨gb247, 2, none⟩ (.string ((rd_T34 t225 x58_2).f2))).setCell ⟨gb247, 3, none⟩ (.string ((rd_T34 t225 x58_2).f3))).setCell ⟨gb247, 4, none⟩ (.int .i64 ((rd_T34 t225 x58_2).f4))).setCell ⟨gb247, 5, none⟩ (.int .i64 ((rd_T34 t225 x58_2).f5))).setCell ⟨gb247, 6, none⟩ (.bool ((rd_T34 t225 x58_2).f6))) = w51 at n0_ n1_ n2_ n3_ n4_ n5_ n6_ n7_ n8_ ⊢
                    have HO_5 := n0_
                    have HO_7 := n1_
                    have HO_49 := n2_
                    have HO_56 := n3_
                    have HO_229001 := n4_
                    have BK228 := n5_
                    have BK245 := n6_
                    have BK247 := n7_
                    have HB := n8_
                    clear n0_ n1_ n2_ n3_ n4_ n5_ n6_ n7_ n8_
                    have n0_ := Aside0.mk (Kd.R_drew HO_5.out)
                    have n1_ := Aside0.mk (Kd.R_drew HO_7.out)
                    have n2_ := Aside0.mk (Kd.R_drew HO_49.out)
                    have n3_ := Aside0.mk (Kd.R_drew HO_56.out)
                    have n4_ := Aside0.mk (Kd.R_drew HO_229001.out)
                    have n5_ := Aside0.mk (blk_drew BK228.out)
                    have n6_ := Aside0.mk (blk_drew BK245.out)
                    have n7_ := Aside0.mk (blk_drew BK247.out)
                    have n8_ := Aside0.mk (below_drew1 HB.out)
                    clear HO_5
                    clear HO_7
                    clear HO_49
                    clear HO_56
                    clear HO_229001
                    clear BK228
                    clear BK245
                    clear BK247
                    clear HB
                    have HO_5 := n0_
                    have HO_7 := n1_
                    have HO_49 := n2_
                    have HO_56 := n3_
                    have HO_229001 := n4_
                    have BK228 := n5_
                    have BK245 := n6_
                    have BK247 := n7_
                    have HB := n8_
                    clear n0_ n1_ n2_ n3_ n4_ n5_ n6_ n7_ n8_
                    obtain ⟨Ao53, co53, eo53⟩ := Kd.R_slice HO_7.out
                    (first | subst eo53 | (injection eo53 with f1_ f2_ f3_; have f4_ := f1_.symm; have f5_ := f3_.symm; clear f1_ f2_ f3_; subst f4_; subst f5_))
                    have p248 : 0 ≤ (x58_2 : Int) := of_decide_eq_true (by assumption)
                    have q248 : x58_2 < (x7_2.length : Int) := of_decide_eq_true (by assumption)
                    obtain ⟨ad248, e248, hx248_0⟩ := Kd.at_int (Kd.R_reads' HO_7.out).2.2 x58_2 p248 q248
                    cases e248
                    replace p248 := eq_true p248
                    replace q248 := eq_true q248
                    have p44 : 0 ≤ (x58_2 : Int) := of_decide_eq_true (by assumption)
                    have q44 : (x58_2 : Int) < ((x7_2.length : Int) : Int) := of_decide_eq_true (by assumption)
                    obtain ⟨go44, co44, eo44, gb44, gl44, cl44, HG44⟩ := Kd.R_form HO_7.out (by omega)
                    (first | cases eo44 | (injection eo44 with ea_ en_ ec_; (first | subst ea_ | (injection ea_ with ea_; subst ea_)); subst ec_; clear en_))
                    have GB44 := Aside0.mk gb44
                    have GG44 := Aside0.mk HG44
                    clear gb44 gl44 HG44
                    (first | simp only [add_plain] at hx248_0 | skip)
                    obtain ⟨hx44_0, hf44_0⟩ := Kd.R_celln 0 HO_7.out (x58_2 : Int) p44 q44
                    replace p44 := eq_true p44
                    replace q44 := eq_true q44
                    have HP54 := Kd.R_putn HO_7.out (x58_2 : Int) (wrap64 ((rd x7_2 x58_2) + (wrap64 (((rd_T36 t229 x51_1).f2) - ((rd_T36 t229 x51_1).f1)))))
                    rw [← Ny249.out] at HP54
                    have HQ54 := Aside0.mk HP54
                    clear HP54
                    refine start_ (n := 12) (S := fun w' => w'.cell? ⟨gb245, 0, none⟩ = some (.int .i64 ((rd_T36 t229 x51_1).f0)) ∧ w'.cell? ⟨gb245, 1, none⟩ = some (.int .i64 ((rd_T36 t229 x51_1).f1)) ∧ w'.cell? ⟨gb245, 2, none⟩ = some (.int .i64 ((rd_T36 t229 x51_1).f2)) ∧ w'.cell? ⟨go44, (x58_2).toNat, none⟩ = some (.int .i64 (rd x7_2 x58_2))) (ds := [11]) #[false, false, false, false, false, false, false, false, false, false, false, false] (by kernel_rfl) rfl rfl ⟨(blk_cell BK245.out 0).trans rfl, (blk_cell BK245.out 1).trans rfl, (blk_cell BK245.out 2).trans rfl, hx248_0⟩ (fun hHeld => ?_); refine with_tabW laws_FnCritical.tab21 laws_FnCritical.bits21 (fun HT_ HW_ => ?_)
                    generalize w51.drew = w52 at HO_5 HO_7 HO_49 HO_56 HO_229001 BK228 BK245 BK247 HB GG44 HQ54 hf44_0 hx248_0 hx44_0 hHeld ⊢
                    refine pure_ (i := 0) (N := some 80) (v := ?_) (a' := ?_) #[true, false, false, false, false, false, false, false, false, false, false, false] rfl rfl (any_of HT_.out (by kernel_rfl)) (fun _ _ _ h => h) (Or.inl ⟨by rfl, ?_⟩) ?_ ?_
                    rotate_left
                    ·intro w'
                     go_simp
                     with_reducible rfl
                    rotate_left
                    ·simp only [Act.put, List.setIfInBounds_toArray, List.set_cons_zero, List.set_cons_succ, i64_w, i32_w]
                     rfl
                    refine pure_ (i := 1) (N := some 81) (v := ?_) (a' := ?_) #[true, true, false, false, false, false, false, false, false, false, false, false] rfl rfl (any_of HT_.out (by kernel_rfl)) (fun _ _ _ h => h) (Or.inl ⟨by rfl, ?_⟩) ?_ ?_
                    rotate_left
                    ·intro w'
                     go_simp
                     with_reducible rfl
                    rotate_left
                    ·simp only [Act.put, List.setIfInBounds_toArray, List.set_cons_zero, List.set_cons_succ, i64_w, i32_w]
                     rfl
                    refine pure_ (i := 2) (N := some 82) (v := ?_) (a' := ?_) #[true, true, true, false, false, false, false, false, false, false, false, false] rfl rfl (any_of HT_.out (by kernel_rfl)) (fun _ _ _ h => h) (Or.inl ⟨by rfl, ?_⟩) ?_ ?_
                    rotate_left
                    ·intro w'
                     go_simp
                     with_reducible rfl
                    rotate_left
                    ·simp only [Act.put, List.setIfInBounds_toArray, List.set_cons_zero, List.set_cons_succ, i64_w, i32_w]
                     rfl
                    refine pure_ (i := 4) (N := some 84) (v := ?_) (a' := ?_) #[true, true, true, false, true, false, false, false, false, false, false, false] rfl rfl (any_of HT_.out (by kernel_rfl)) (fun _ _ _ h => h) (Or.inl ⟨by rfl, ?_⟩) ?_ ?_
                    rotate_left
                    ·intro w'
                     go_simp
                     with_reducible rfl
                    rotate_left
                    ·simp only [Act.put, List.setIfInBounds_toArray, List.set_cons_zero, List.set_cons_succ, i64_w, i32_w]
                     rfl
                    refine pure_ (i := 6) (N := some 86) (v := ?_) (a' := ?_) #[true, true, true, false, true, false, true, false, false, false, false, false] rfl rfl (any_of HT_.out (by kernel_rfl)) (fun _ _ _ h => h) (Or.inl ⟨by rfl, ?_⟩) ?_ ?_
                    rotate_left
                    ·intro w'
                     go_simp
                     with_reducible rfl
                    rotate_left
                    ·simp only [Act.put, List.setIfInBounds_toArray, List.set_cons_zero, List.set_cons_succ, i64_w, i32_w]
                     rfl
                    refine take_ (i := 3) (N := some 83) (v := ?_) (a' := ?_) #[true, true, true, true, true, false, true, false, false, false, false, false] rfl rfl (take_ofW HT_.out HW_.out (by kernel_rfl)) (fun _ _ _ h => h) (Or.inl ⟨by rfl, ?_⟩) hHeld ?_ ?_
                    rotate_left
                    ·rintro w' ⟨s0, s1, s2, s3⟩
                     go_simp
                     with_reducible rfl
                    rotate_left
                    ·simp only [Act.put, List.setIfInBounds_toArray, List.set_cons_zero, List.set_cons_succ, i64_w, i32_w]
                     rfl
                    refine take_ (i := 5) (N := some 85) (v := ?_) (a' := ?_) #[true, true, true, true, true, true, true, false, false, false, false, false] rfl rfl (take_ofW HT_.out HW_.out (by kernel_rfl)) (fun _ _ _ h => h) (Or.inl ⟨by rfl, ?_⟩) hHeld ?_ ?_
                    rotate_left
                    ·rintro w' ⟨s0, s1, s2, s3⟩
                     go_simp
                     with_reducible rfl
                    rotate_left
                    ·simp only [Act.put, List.setIfInBounds_toArray, List.set_cons_zero, List.set_cons_succ, i64_w, i32_w]
                     rfl
                    refine take_ (i := 7) (N := some 87) (v := ?_) (a' := ?_) #[true, true, true, true, true, true, true, true, false, false, false, false] rfl rfl (take_ofW HT_.out HW_.out (by kernel_rfl)) (fun _ _ _ h => h) (Or.inl ⟨by rfl, ?_⟩) hHeld ?_ ?_
                    rotate_left
                    ·rintro w' ⟨s0, s1, s2, s3⟩
                     go_simp
                     with_reducible rfl
                    rotate_left
                    ·simp only [Act.put, List.setIfInBounds_toArray, List.set_cons_zero, List.set_cons_succ, i64_w, i32_w]
                     rfl
                    refine pure_ (i := 8) (N := some 88) (v := ?_) (a' := ?_) #[true, true, true, true, true, true, true, true, true, false, false, false] rfl rfl (any_of HT_.out (by kernel_rfl)) (fun _ _ _ h => h) (Or.inl ⟨by rfl, ?_⟩) ?_ ?_
                    rotate_left
                    ·intro w'
                     go_simp
                     with_reducible rfl
                    rotate_left
                    ·simp only [Act.put, List.setIfInBounds_toArray, List.set_cons_zero, List.set_cons_succ, i64_w, i32_w]
                     rfl
                    refine pure_ (i := 9) (N := some 89) (v := ?_) (a' := ?_) #[true, true, true, true, true, true, true, true, true, true, false, false] rfl rfl (any_of HT_.out (by kernel_rfl)) (fun _ _ _ h => h) (Or.inl ⟨by rfl, ?_⟩) ?_ ?_
                    rotate_left
                    ·intro w'
                     go_simp
                     with_reducible rfl
                    rotate_left
                    ·simp only [Act.put, List.setIfInBounds_toArray, List.set_cons_zero, List.set_cons_succ, i64_w, i32_w]
                     rfl
                    refine pure_ (i := 10) (N := some 90) (v := ?_) (a' := ?_) #[true, true, true, true, true, true, true, true, true, true, true, false] rfl rfl (any_of HT_.out (by kernel_rfl)) (fun _ _ _ h => h) (Or.inl ⟨by rfl, ?_⟩) ?_ ?_
                    rotate_left
                    ·intro w'
                     go_simp
                     with_reducible rfl
                    rotate_left
                    ·simp only [Act.put, List.setIfInBounds_toArray, List.set_cons_zero, List.set_cons_succ, i64_w, i32_w]
                     rfl
                    refine last_ (i := 11) (N := none) #[true, true, true, true, true, true, true, true, true, true, true, true] rfl rfl (one_of HT_.out (by kernel_rfl)) (by decide) (fun K hK => ?_)
                    refine skip_ (w1 := ?_) (by rfl) rfl ?_ ?_
                    rotate_left
                    ·go_simp
                     rfl
                    refine hK.out _ _ ?_
                    clear hK K
                    refine done_ (done_of HT_.out (by kernel_rfl)) ?_
                    try go_wp2
                    go_roundg k2
                    case measure => have := HK1.out; have := HK2.out; omega
                    case rel => exact ⟨(y249), (decide (((rd_T36 t229 x51_1).f2) ≤ ((rd_T34 t225 x58_2).f5))), (wrap64 (x58_2 + 1)), (by first | rfl | (simp; done) | (simp [*]; done)), (by first | rfl | (simp; done) | (simp [*]; done)), H', ⟨by have := HK1.out; have := HK2.out; omega⟩, ⟨by (with_reducible repeat (first | apply Kd.R_alloc | apply Kd.R_drewN | apply Kd.R_drew)); exact Kd.R_mono (Kd.R_far (p := ⟨go44, (x58_2 : Int).toNat, none⟩) (Kd.R_mono HO_5.out (fun k_ hk => (⟨hk, fun e_ => hk (by rw [e_]; rfl)⟩ : _ ∧ k_ ≠ go44))) (fun _ hk => hk.2) (.int .i64 (wrap64 ((rd x7_2 x58_2) + (wrap64 (((rd_T36 t229 x51_1).f2) - ((rd_T36 t229 x51_1).f1))))))) (fun _ hk => hk.1)⟩, ⟨by (with_reducible repeat (first | apply Kd.R_alloc | apply Kd.R_drewN | apply Kd.R_drew)); exact HQ54.out⟩, ⟨by (with_reducible repeat (first | apply Kd.R_alloc | apply Kd.R_drewN | apply Kd.R_drew)); exact Kd.R_mono (Kd.R_far (p := ⟨go44, (x58_2 : Int).toNat, none⟩) (Kd.R_types HO_49.out GG44.out (by decide)) (fun _ hk => hk.2) (.int .i64 (wrap64 ((rd x7_2 x58_2) + (wrap64 (((rd_T36 t229 x51_1).f2) - ((rd_T36 t229 x51_1).f1))))))) (fun _ hk => hk.1)⟩, ⟨by (with_reducible repeat (first | apply Kd.R_alloc | apply Kd.R_drewN | apply Kd.R_drew)); exact Kd.R_mono (Kd.R_far (p := ⟨go44, (x58_2 : Int).toNat, none⟩) (Kd.R_types HO_56.out GG44.out (by decide)) (fun _ hk => hk.2) (.int .i64 (wrap64 ((rd x7_2 x58_2) + (wrap64 (((rd_T36 t229 x51_1).f2) - ((rd_T36 t229 x51_1).f1))))))) (fun _ hk => trivial)⟩, ⟨by (with_reducible repeat (first | apply Kd.R_alloc | apply Kd.R_drewN | apply Kd.R_drew)); exact Kd.R_mono (Kd.R_far (p := ⟨go44, (x58_2 : Int).toNat, none⟩) (Kd.R_types HO_229001.out GG44.out (by decide)) (fun _ hk => hk.2) (.int .i64 (wrap64 ((rd x7_2 x58_2) + (wrap64 (((rd_T36 t229 x51_1).f2) - ((rd_T36 t229 x51_1).f1))))))) (fun _ hk => trivial)⟩, ⟨by (with_reducible repeat (first | apply blk_drewN | apply blk_drew | apply blk_alloc)); refine blk_far ?_ (by have h_ := Kd.R_ne HO_7.out BK228.out (by decide); intro e_; exact h_ (by rw [e_]; rfl)) _; (with_reducible repeat (first | apply blk_drewN | apply blk_drew | apply blk_alloc)); exact BK228.out⟩, ⟨by (with_reducible repeat (first | apply blk_drewN | apply blk_drew | apply blk_alloc)); refine blk_far ?_ (by have h_ := Kd.R_ne HO_7.out BK245.out (by decide); intro e_; exact h_ (by rw [e_]; rfl)) _; (with_reducible repeat (first | apply blk_drewN | apply blk_drew | apply blk_alloc)); exact BK245.out⟩, ⟨by with_reducible repeat (first | exact HB.out | apply below_alloc | apply pw_below_drewN | apply below_drew1 | refine below_set ?_ GB44.out | refine below_set ?_ GE228.out | refine below_set ?_ GE245.out | refine below_set ?_ GE247.out)⟩⟩
                   ·rw [if_neg c43] at H
                    exact absurd H (by simp)
                  ·rw [if_neg c42] at H
                   have c42b0 : decide (((rd_T34 t225 x58_2).f4) ≤ ((rd_T36 t229 x51_1).f1)) = false := decide_eq_false c42
                   clear c42
                   by_cases c55 : x58_2 < (x7_2.length : Int)
                   ·rw [if_pos c55] at H
                    have c55b0 : decide (x58_2 < (x7_2.length : Int)) = true := decide_eq_true c55
                    clear c55
                    obtain ⟨y251, hy251⟩ : ∃ y_ : List Int, y_ = (x7_2.set (x58_2 : Int).toNat (wrap64 ((rd x7_2 x58_2) + (wrap64 (((rd_T36 t229 x51_1).f2) - ((rd_T36 t229 x51_1).f1)))))) := ⟨_, rfl⟩
                    replace H : (laws_FnCritical.l1 k2 t232 x6_1 y251 false t229 (t229.length : Int) x51_1 t225 (t225.length : Int) (wrap64 (x58_2 + 1)) t224 t225 ((rd_T36 t229 x51_1).f0) ((rd_T36 t229 x51_1).f1) ((rd_T36 t229 x51_1).f2)) = some r := by first | (rw [hy251]; with_reducible exact H) | (have H2_ := (Option.bind_some _ _).symm.trans H; rw [hy251]; with_reducible exact H2_) | (have H2_ := (Option.bind_some _ _).symm.trans H; with_reducible exact H2_) | with_reducible exact H | (rw [hy251]; exact H) | exact H
                    have Ny251 := Aside0.mk hy251
                    clear hy251
                    have H' := Aside0.mk H
                    clear H
                    have p246 : 0 ≤ (x58_2 : Int) := of_decide_eq_true (by assumption)
                    have q246 : x58_2 < (t225.length : Int) := of_decide_eq_true (by assumption)
                    obtain ⟨ad246, e246, hx246_0, hx246_1, hx246_2, hx246_3, hx246_4, hx246_5, hx246_6⟩ := at_T34 (Kd.R_reads' HO_56.out).2.2 x58_2 p246 q246
                    obtain rfl : ad240 = ad246 := (by injection e246)
                    replace p246 := eq_true p246
                    replace q246 := eq_true q246
                    try go_wp2_with (first | ((with_reducible refine gate_dst (N := 12) rfl ?_); (try (refine gate_guard (by rfl) ?_; dsimp only)); refine box_event ?hg (N := 12) ?hd (cs := #[.int .i64 0, .int .i64 0, .string ⟨#[]⟩, .string ⟨#[]⟩, .int .i64 0, .int .i64 0, .bool false]) (t := 34) ?hr ?_; (case hd => rfl); (case hg => rfl); (case hr => first | (go_simp; done) | (go_simp; rfl)); intro gb247 hg w57 hbox hb; have n0_ := Aside0.mk (Kd.R_below (by (with_reducible repeat (first | apply Kd.R_alloc | apply Kd.R_drewN | apply Kd.R_drew)); exact HO_5.out) hb); have n1_ := Aside0.mk (Kd.R_below (by (with_reducible repeat (first | apply Kd.R_alloc | apply Kd.R_drewN | apply Kd.R_drew)); exact HO_7.out) hb); have n2_ := Aside0.mk (Kd.R_below (by (with_reducible repeat (first | apply Kd.R_alloc | apply Kd.R_drewN | apply Kd.R_drew)); exact HO_49.out) hb); have n3_ := Aside0.mk (Kd.R_below (Kd.R_elderB (by (with_reducible repeat (first | apply Kd.R_alloc | apply Kd.R_drewN | apply Kd.R_drew)); exact HO_56.out) gb247 (Nat.le_of_eq hg.symm)) hb); have n4_ := Aside0.mk (Kd.R_below (Kd.R_elderB (by (with_reducible repeat (first | apply Kd.R_alloc | apply Kd.R_drewN | apply Kd.R_drew)); exact HO_229001.out) gb247 (Nat.le_of_eq hg.symm)) hb); have n5_ := Aside0.mk (blk_below (g := gb228) (by (with_reducible repeat (first | apply blk_drewN | apply blk_drew | apply blk_alloc)); exact BK228.out) hb); have n6_ := Aside0.mk (blk_below (g := gb245) (by (with_reducible repeat (first | apply blk_drewN | apply blk_drew | apply blk_alloc)); exact BK245.out) hb); have n7_ := Aside0.mk (below_step (by with_reducible repeat (first | exact HB.out | apply below_alloc | apply pw_below_drewN | apply below_drew1 | refine below_set ?_ GE228.out | refine below_set ?_ GE245.out)) hb); have n8_ := Aside0.mk (hbox); have n9_ := Aside0.mk ((by rw [hg]; exact (below_size (by with_reducible repeat (first | exact HB.out | apply below_alloc | apply pw_below_drewN | apply below_drew1 | refine below_set ?_ GE228.out | refine below_set ?_ GE245.out))) : w.heap.size ≤ gb247)); have n10_ := n9_; have n11_ := Aside0.mk ((by rw [hg]; exact Nat.ne_of_lt (blk_lt (g := gb228) (by (with_reducible repeat (first | apply blk_drewN | apply blk_drew | apply blk_alloc)); exact BK228.out)) : gb228 ≠ gb247)); have n12_ := Aside0.mk ((by rw [hg]; exact Nat.ne_of_gt (blk_lt (g := gb228) (by (with_reducible repeat (first | apply blk_drewN | apply blk_drew | apply blk_alloc)); exact BK228.out)) : gb247 ≠ gb228)); have n13_ := Aside0.mk ((by rw [hg]; exact Nat.ne_of_lt (blk_lt (g := gb245) (by (with_reducible repeat (first | apply blk_drewN | apply blk_drew | apply blk_alloc)); exact BK245.out)) : gb245 ≠ gb247)); have n14_ := Aside0.mk ((by rw [hg]; exact Nat.ne_of_gt (blk_lt (g := gb245) (by (with_reducible repeat (first | apply blk_drewN | apply blk_drew | apply blk_alloc)); exact BK245.out)) : gb247 ≠ gb245)); clear HO_5; clear HO_7; clear HO_49; clear HO_56; clear HO_229001; clear BK228; clear BK245; clear HB; have HO_5 := n0_; have HO_7 := n1_; have HO_49 := n2_; have HO_56 := n3_; have HO_229001 := n4_; have BK228 := n5_; have BK245 := n6_; have HB := n7_; have BK247 := n8_; have GW247 := n9_; have GE247 := n10_; have NB228_247 := n11_; have NB247_228 := n12_; have NB245_247 := n13_; have NB247_245 := n14_; clear n0_ n1_ n2_ n3_ n4_ n5_ n6_ n7_ n8_ n9_ n10_ n11_ n12_ n13_ n14_; clear hb hbox hg; have hnb58 := NB247_228.out; have hnc58 := NB228_247.out; have hnb59 := NB247_245.out; have hnc59 := NB245_247.out; have hcz60_0 : w57.cell? ⟨gb247, 0, none⟩ = some (.int .i64 0) := (blk_cell BK247.out 0).trans rfl; have hcz60_1 : w57.cell? ⟨gb247, 1, none⟩ = some (.int .i64 0) := (blk_cell BK247.out 1).trans rfl; have hcz60_2 : w57.cell? ⟨gb247, 2, none⟩ = some (.string ⟨#[]⟩) := (blk_cell BK247.out 2).trans rfl; have hcz60_3 : w57.cell? ⟨gb247, 3, none⟩ = some (.string ⟨#[]⟩) := (blk_cell BK247.out 3).trans rfl; have hcz60_4 : w57.cell? ⟨gb247, 4, none⟩ = some (.int .i64 0) := (blk_cell BK247.out 4).trans rfl; have hcz60_5 : w57.cell? ⟨gb247, 5, none⟩ = some (.int .i64 0) := (blk_cell BK247.out 5).trans rfl; have hcz60_6 : w57.cell? ⟨gb247, 6, none⟩ = some (.bool false) := (blk_cell BK247.out 6).trans rfl; have hfz60_0 := blk_frozen BK247.out 0; have hfz60_1 := blk_frozen BK247.out 1; have hfz60_2 := blk_frozen BK247.out 2; have hfz60_3 := blk_frozen BK247.out 3; have hfz60_4 := blk_frozen BK247.out 4; have hfz60_5 := blk_frozen BK247.out 5; have hfz60_6 := blk_frozen BK247.out 6; have hnb61 := NB245_228.out; have hnc61 := NB228_245.out; have hcz62_0 : w57.cell? ⟨gb245, 0, none⟩ = some (.int .i64 ((rd_T36 t229 x51_1).f0)) := (blk_cell BK245.out 0).trans rfl; have hcz62_1 : w57.cell? ⟨gb245, 1, none⟩ = some (.int .i64 ((rd_T36 t229 x51_1).f1)) := (blk_cell BK245.out 1).trans rfl; have hcz62_2 : w57.cell? ⟨gb245, 2, none⟩ = some (.int .i64 ((rd_T36 t229 x51_1).f2)) := (blk_cell BK245.out 2).trans rfl; have hfz62_0 := blk_frozen BK245.out 0; have hfz62_1 := blk_frozen BK245.out 1; have hfz62_2 := blk_frozen BK245.out 2))
                    have n0_ : Aside0 (Kd.R (Kd.int .i64) 3 (((((((w57.setCell ⟨gb247, 0, none⟩ (.int .i64 ((rd_T34 t225 x58_2).f0))).setCell ⟨gb247, 1, none⟩ (.int .i64 ((rd_T34 t225 x58_2).f1))).setCell ⟨gb247, 2, none⟩ (.string ((rd_T34 t225 x58_2).f2))).setCell ⟨gb247, 3, none⟩ (.string ((rd_T34 t225 x58_2).f3))).setCell ⟨gb247, 4, none⟩ (.int .i64 ((rd_T34 t225 x58_2).f4))).setCell ⟨gb247, 5, none⟩ (.int .i64 ((rd_T34 t225 x58_2).f5))).setCell ⟨gb247, 6, none⟩ (.bool ((rd_T34 t225 x58_2).f6))) w.heap.size (fun k_ => some k_ ≠ (v242 : Value).ownBlock) (.slice Ao25 t232.length co25) t232) := ⟨by (with_reducible repeat (first | apply Kd.R_alloc | apply Kd.R_drewN | apply Kd.R_drew)); exact Kd.R_mono (Kd.R_far (p := ⟨gb247, 6, none⟩) (Kd.R_far (p := ⟨gb247, 5, none⟩) (Kd.R_far (p := ⟨gb247, 4, none⟩) (Kd.R_far (p := ⟨gb247, 3, none⟩) (Kd.R_far (p := ⟨gb247, 2, none⟩) (Kd.R_far (p := ⟨gb247, 1, none⟩) (Kd.R_far (p := ⟨gb247, 0, none⟩) (Kd.R_types HO_5.out BK247.out (by decide)) (fun _ hk => hk.2) (.int .i64 ((rd_T34 t225 x58_2).f0))) (fun _ hk => hk.2) (.int .i64 ((rd_T34 t225 x58_2).f1))) (fun _ hk => hk.2) (.string ((rd_T34 t225 x58_2).f2))) (fun _ hk => hk.2) (.string ((rd_T34 t225 x58_2).f3))) (fun _ hk => hk.2) (.int .i64 ((rd_T34 t225 x58_2).f4))) (fun _ hk => hk.2) (.int .i64 ((rd_T34 t225 x58_2).f5))) (fun _ hk => hk.2) (.bool ((rd_T34 t225 x58_2).f6))) (fun _ hk => hk.1)⟩
                    have n1_ : Aside0 (Kd.R (Kd.int .i64) 3 (((((((w57.setCell ⟨gb247, 0, none⟩ (.int .i64 ((rd_T34 t225 x58_2).f0))).setCell ⟨gb247, 1, none⟩ (.int .i64 ((rd_T34 t225 x58_2).f1))).setCell ⟨gb247, 2, none⟩ (.string ((rd_T34 t225 x58_2).f2))).setCell ⟨gb247, 3, none⟩ (.string ((rd_T34 t225 x58_2).f3))).setCell ⟨gb247, 4, none⟩ (.int .i64 ((rd_T34 t225 x58_2).f4))).setCell ⟨gb247, 5, none⟩ (.int .i64 ((rd_T34 t225 x58_2).f5))).setCell ⟨gb247, 6, none⟩ (.bool ((rd_T34 t225 x58_2).f6))) w.heap.size (fun k_ => some k_ ≠ (.slice Ao25 t232.length co25 : Value).ownBlock) v242 x7_2) := ⟨by (with_reducible repeat (first | apply Kd.R_alloc | apply Kd.R_drewN | apply Kd.R_drew)); exact Kd.R_mono (Kd.R_far (p := ⟨gb247, 6, none⟩) (Kd.R_far (p := ⟨gb247, 5, none⟩) (Kd.R_far (p := ⟨gb247, 4, none⟩) (Kd.R_far (p := ⟨gb247, 3, none⟩) (Kd.R_far (p := ⟨gb247, 2, none⟩) (Kd.R_far (p := ⟨gb247, 1, none⟩) (Kd.R_far (p := ⟨gb247, 0, none⟩) (Kd.R_types HO_7.out BK247.out (by decide)) (fun _ hk => hk.2) (.int .i64 ((rd_T34 t225 x58_2).f0))) (fun _ hk => hk.2) (.int .i64 ((rd_T34 t225 x58_2).f1))) (fun _ hk => hk.2) (.string ((rd_T34 t225 x58_2).f2))) (fun _ hk => hk.2) (.string ((rd_T34 t225 x58_2).f3))) (fun _ hk => hk.2) (.int .i64 ((rd_T34 t225 x58_2).f4))) (fun _ hk => hk.2) (.int .i64 ((rd_T34 t225 x58_2).f5))) (fun _ hk => hk.2) (.bool ((rd_T34 t225 x58_2).f6))) (fun _ hk => hk.1)⟩
                    have n2_ : Aside0 (Kd.R k36 36 (((((((w57.setCell ⟨gb247, 0, none⟩ (.int .i64 ((rd_T34 t225 x58_2).f0))).setCell ⟨gb247, 1, none⟩ (.int .i64 ((rd_T34 t225 x58_2).f1))).setCell ⟨gb247, 2, none⟩ (.string ((rd_T34 t225 x58_2).f2))).setCell ⟨gb247, 3, none⟩ (.string ((rd_T34 t225 x58_2).f3))).setCell ⟨gb247, 4, none⟩ (.int .i64 ((rd_T34 t225 x58_2).f4))).setCell ⟨gb247, 5, none⟩ (.int .i64 ((rd_T34 t225 x58_2).f5))).setCell ⟨gb247, 6, none⟩ (.bool ((rd_T34 t225 x58_2).f6))) w.heap.size (fun k_ => k_ ≠ gb245) (.slice (some ad244) t229.length co30) t229) := ⟨by (with_reducible repeat (first | apply Kd.R_alloc | apply Kd.R_drewN | apply Kd.R_drew)); exact Kd.R_mono (Kd.R_far (p := ⟨gb247, 6, none⟩) (Kd.R_far (p := ⟨gb247, 5, none⟩) (Kd.R_far (p := ⟨gb247, 4, none⟩) (Kd.R_far (p := ⟨gb247, 3, none⟩) (Kd.R_far (p := ⟨gb247, 2, none⟩) (Kd.R_far (p := ⟨gb247, 1, none⟩) (Kd.R_far (p := ⟨gb247, 0, none⟩) (Kd.R_types HO_49.out BK247.out (by decide)) (fun _ hk => hk.2) (.int .i64 ((rd_T34 t225 x58_2).f0))) (fun _ hk => hk.2) (.int .i64 ((rd_T34 t225 x58_2).f1))) (fun _ hk => hk.2) (.string ((rd_T34 t225 x58_2).f2))) (fun _ hk => hk.2) (.string ((rd_T34 t225 x58_2).f3))) (fun _ hk => hk.2) (.int .i64 ((rd_T34 t225 x58_2).f4))) (fun _ hk => hk.2) (.int .i64 ((rd_T34 t225 x58_2).f5))) (fun _ hk => hk.2) (.bool ((rd_T34 t225 x58_2).f6))) (fun _ hk => hk.1)⟩
                    have n3_ : Aside0 (Kd.R k34 34 (((((((w57.setCell ⟨gb247, 0, none⟩ (.int .i64 ((rd_T34 t225 x58_2).f0))).setCell ⟨gb247, 1, none⟩ (.int .i64 ((rd_T34 t225 x58_2).f1))).setCell ⟨gb247, 2, none⟩ (.string ((rd_T34 t225 x58_2).f2))).setCell ⟨gb247, 3, none⟩ (.string ((rd_T34 t225 x58_2).f3))).setCell ⟨gb247, 4, none⟩ (.int .i64 ((rd_T34 t225 x58_2).f4))).setCell ⟨gb247, 5, none⟩ (.int .i64 ((rd_T34 t225 x58_2).f5))).setCell ⟨gb247, 6, none⟩ (.bool ((rd_T34 t225 x58_2).f6))) w.heap.size (fun k_ => k_ ≠ gb247) (.slice (some ad240) t225.length co17) t225) := ⟨by (with_reducible repeat (first | apply Kd.R_alloc | apply Kd.R_drewN | apply Kd.R_drew)); exact Kd.R_mono (Kd.R_far (p := ⟨gb247, 6, none⟩) (Kd.R_far (p := ⟨gb247, 5, none⟩) (Kd.R_far (p := ⟨gb247, 4, none⟩) (Kd.R_far (p := ⟨gb247, 3, none⟩) (Kd.R_far (p := ⟨gb247, 2, none⟩) (Kd.R_far (p := ⟨gb247, 1, none⟩) (Kd.R_far (p := ⟨gb247, 0, none⟩) (Kd.R_mono HO_56.out (fun k_ hk => (⟨hk, hk.2⟩ : _ ∧ k_ ≠ gb247))) (fun _ hk => hk.2) (.int .i64 ((rd_T34 t225 x58_2).f0))) (fun _ hk => hk.2) (.int .i64 ((rd_T34 t225 x58_2).f1))) (fun _ hk => hk.2) (.string ((rd_T34 t225 x58_2).f2))) (fun _ hk => hk.2) (.string ((rd_T34 t225 x58_2).f3))) (fun _ hk => hk.2) (.int .i64 ((rd_T34 t225 x58_2).f4))) (fun _ hk => hk.2) (.int .i64 ((rd_T34 t225 x58_2).f5))) (fun _ hk => hk.2) (.bool ((rd_T34 t225 x58_2).f6))) (fun _ hk => hk.1.2)⟩
                    have n4_ : Aside0 (Kd.R k34 34 (((((((w57.setCell ⟨gb247, 0, none⟩ (.int .i64 ((rd_T34 t225 x58_2).f0))).setCell ⟨gb247, 1, none⟩ (.int .i64 ((rd_T34 t225 x58_2).f1))).setCell ⟨gb247, 2, none⟩ (.string ((rd_T34 t225 x58_2).f2))).setCell ⟨gb247, 3, none⟩ (.string ((rd_T34 t225 x58_2).f3))).setCell ⟨gb247, 4, none⟩ (.int .i64 ((rd_T34 t225 x58_2).f4))).setCell ⟨gb247, 5, none⟩ (.int .i64 ((rd_T34 t225 x58_2).f5))).setCell ⟨gb247, 6, none⟩ (.bool ((rd_T34 t225 x58_2).f6))) w.heap.size (fun k_ => k_ ≠ gb247) (.slice (some ad240) t225.length co17) t225) := ⟨by (with_reducible repeat (first | apply Kd.R_alloc | apply Kd.R_drewN | apply Kd.R_drew)); exact Kd.R_mono (Kd.R_far (p := ⟨gb247, 6, none⟩) (Kd.R_far (p := ⟨gb247, 5, none⟩) (Kd.R_far (p := ⟨gb247, 4, none⟩) (Kd.R_far (p := ⟨gb247, 3, none⟩) (Kd.R_far (p := ⟨gb247, 2, none⟩) (Kd.R_far (p := ⟨gb247, 1, none⟩) (Kd.R_far (p := ⟨gb247, 0, none⟩) (Kd.R_mono HO_229001.out (fun k_ hk => (⟨hk, hk.2⟩ : _ ∧ k_ ≠ gb247))) (fun _ hk => hk.2) (.int .i64 ((rd_T34 t225 x58_2).f0))) (fun _ hk => hk.2) (.int .i64 ((rd_T34 t225 x58_2).f1))) (fun _ hk => hk.2) (.string ((rd_T34 t225 x58_2).f2))) (fun _ hk => hk.2) (.string ((rd_T34 t225 x58_2).f3))) (fun _ hk => hk.2) (.int .i64 ((rd_T34 t225 x58_2).f4))) (fun _ hk => hk.2) (.int .i64 ((rd_T34 t225 x58_2).f5))) (fun _ hk => hk.2) (.bool ((rd_T34 t225 x58_2).f6))) (fun _ hk => hk.1.2)⟩
                    have n5_ : Aside0 ((((((((w57.setCell ⟨gb247, 0, none⟩ (.int .i64 ((rd_T34 t225 x58_2).f0))).setCell ⟨gb247, 1, none⟩ (.int .i64 ((rd_T34 t225 x58_2).f1))).setCell ⟨gb247, 2, none⟩ (.string ((rd_T34 t225 x58_2).f2))).setCell ⟨gb247, 3, none⟩ (.string ((rd_T34 t225 x58_2).f3))).setCell ⟨gb247, 4, none⟩ (.int .i64 ((rd_T34 t225 x58_2).f4))).setCell ⟨gb247, 5, none⟩ (.int .i64 ((rd_T34 t225 x58_2).f5))).setCell ⟨gb247, 6, none⟩ (.bool ((rd_T34 t225 x58_2).f6))).heap[gb228]? = some (.cells #[.int .i64 t224, .slice (some ad240) t225.length co17] 25 (0, 0))) := ⟨by (with_reducible repeat (first | apply blk_drewN | apply blk_drew | apply blk_alloc)); refine blk_far ?_ NB228_247.out _; (with_reducible repeat (first | apply blk_drewN | apply blk_drew | apply blk_alloc)); refine blk_far ?_ NB228_247.out _; (with_reducible repeat (first | apply blk_drewN | apply blk_drew | apply blk_alloc)); refine blk_far ?_ NB228_247.out _; (with_reducible repeat (first | apply blk_drewN | apply blk_drew | apply blk_alloc)); refine blk_far ?_ NB228_247.out _; (with_reducible repeat (first | apply blk_drewN | apply blk_drew | apply blk_alloc)); refine blk_far ?_ NB228_247.out _; (with_reducible repeat (first | apply blk_drewN | apply blk_drew | apply blk_alloc)); refine blk_far ?_ NB228_247.out _; (with_reducible repeat (first | apply blk_drewN | apply blk_drew | apply blk_alloc)); refine blk_far ?_ NB228_247.out _; (with_reducible repeat (first | apply blk_drewN | apply blk_drew | apply blk_alloc)); exact BK228.out⟩
                    have n6_ : Aside0 ((((((((w57.setCell ⟨gb247, 0, none⟩ (.int .i64 ((rd_T34 t225 x58_2).f0))).setCell ⟨gb247, 1, none⟩ (.int .i64 ((rd_T34 t225 x58_2).f1))).setCell ⟨gb247, 2, none⟩ (.string ((rd_T34 t225 x58_2).f2))).setCell ⟨gb247, 3, none⟩ (.string ((rd_T34 t225 x58_2).f3))).setCell ⟨gb247, 4, none⟩ (.int .i64 ((rd_T34 t225 x58_2).f4))).setCell ⟨gb247, 5, none⟩ (.int .i64 ((rd_T34 t225 x58_2).f5))).setCell ⟨gb247, 6, none⟩ (.bool ((rd_T34 t225 x58_2).f6))).heap[gb245]? = some (.cells #[.int .i64 ((rd_T36 t229 x51_1).f0), .int .i64 ((rd_T36 t229 x51_1).f1), .int .i64 ((rd_T36 t229 x51_1).f2)] 36 (0, 0))) := ⟨by (with_reducible repeat (first | apply blk_drewN | apply blk_drew | apply blk_alloc)); refine blk_far ?_ NB245_247.out _; (with_reducible repeat (first | apply blk_drewN | apply blk_drew | apply blk_alloc)); refine blk_far ?_ NB245_247.out _; (with_reducible repeat (first | apply blk_drewN | apply blk_drew | apply blk_alloc)); refine blk_far ?_ NB245_247.out _; (with_reducible repeat (first | apply blk_drewN | apply blk_drew | apply blk_alloc)); refine blk_far ?_ NB245_247.out _; (with_reducible repeat (first | apply blk_drewN | apply blk_drew | apply blk_alloc)); refine blk_far ?_ NB245_247.out _; (with_reducible repeat (first | apply blk_drewN | apply blk_drew | apply blk_alloc)); refine blk_far ?_ NB245_247.out _; (with_reducible repeat (first | apply blk_drewN | apply blk_drew | apply blk_alloc)); refine blk_far ?_ NB245_247.out _; (with_reducible repeat (first | apply blk_drewN | apply blk_drew | apply blk_alloc)); exact BK245.out⟩
                    have n7_ : Aside0 ((((((((w57.setCell ⟨gb247, 0, none⟩ (.int .i64 ((rd_T34 t225 x58_2).f0))).setCell ⟨gb247, 1, none⟩ (.int .i64 ((rd_T34 t225 x58_2).f1))).setCell ⟨gb247, 2, none⟩ (.string ((rd_T34 t225 x58_2).f2))).setCell ⟨gb247, 3, none⟩ (.string ((rd_T34 t225 x58_2).f3))).setCell ⟨gb247, 4, none⟩ (.int .i64 ((rd_T34 t225 x58_2).f4))).setCell ⟨gb247, 5, none⟩ (.int .i64 ((rd_T34 t225 x58_2).f5))).setCell ⟨gb247, 6, none⟩ (.bool ((rd_T34 t225 x58_2).f6))).heap[gb247]? = some (.cells #[.int .i64 ((rd_T34 t225 x58_2).f0), .int .i64 ((rd_T34 t225 x58_2).f1), .string ((rd_T34 t225 x58_2).f2), .string ((rd_T34 t225 x58_2).f3), .int .i64 ((rd_T34 t225 x58_2).f4), .int .i64 ((rd_T34 t225 x58_2).f5), .bool ((rd_T34 t225 x58_2).f6)] 34 (0, 0))) := ⟨by (with_reducible repeat (first | apply blk_drewN | apply blk_drew | apply blk_alloc)); refine blk_put (cs := #[.int .i64 ((rd_T34 t225 x58_2).f0), .int .i64 ((rd_T34 t225 x58_2).f1), .string ((rd_T34 t225 x58_2).f2), .string ((rd_T34 t225 x58_2).f3), .int .i64 ((rd_T34 t225 x58_2).f4), .int .i64 ((rd_T34 t225 x58_2).f5), .bool false]) ?_ 6 _ rfl; (with_reducible repeat (first | apply blk_drewN | apply blk_drew | apply blk_alloc)); refine blk_put (cs := #[.int .i64 ((rd_T34 t225 x58_2).f0), .int .i64 ((rd_T34 t225 x58_2).f1), .string ((rd_T34 t225 x58_2).f2), .string ((rd_T34 t225 x58_2).f3), .int .i64 ((rd_T34 t225 x58_2).f4), .int .i64 0, .bool false]) ?_ 5 _ rfl; (with_reducible repeat (first | apply blk_drewN | apply blk_drew | apply blk_alloc)); refine blk_put (cs := #[.int .i64 ((rd_T34 t225 x58_2).f0), .int .i64 ((rd_T34 t225 x58_2).f1), .string ((rd_T34 t225 x58_2).f2), .string ((rd_T34 t225 x58_2).f3), .int .i64 0, .int .i64 0, .bool false]) ?_ 4 _ rfl; (with_reducible repeat (first | apply blk_drewN | apply blk_drew | apply blk_alloc)); refine blk_put (cs := #[.int .i64 ((rd_T34 t225 x58_2).f0), .int .i64 ((rd_T34 t225 x58_2).f1), .string ((rd_T34 t225 x58_2).f2), .string ⟨#[]⟩, .int .i64 0, .int .i64 0, .bool false]) ?_ 3 _ rfl; (with_reducible repeat (first | apply blk_drewN | apply blk_drew | apply blk_alloc)); refine blk_put (cs := #[.int .i64 ((rd_T34 t225 x58_2).f0), .int .i64 ((rd_T34 t225 x58_2).f1), .string ⟨#[]⟩, .string ⟨#[]⟩, .int .i64 0, .int .i64 0, .bool false]) ?_ 2 _ rfl; (with_reducible repeat (first | apply blk_drewN | apply blk_drew | apply blk_alloc)); refine blk_put (cs := #[.int .i64 ((rd_T34 t225 x58_2).f0), .int .i64 0, .string ⟨#[]⟩, .string ⟨#[]⟩, .int .i64 0, .int .i64 0, .bool false]) ?_ 1 _ rfl; (with_reducible repeat (first | apply blk_drewN | apply blk_drew | apply blk_alloc)); refine blk_put (cs := #[.int .i64 0, .int .i64 0, .string ⟨#[]⟩, .string ⟨#[]⟩, .int .i64 0, .int .i64 0, .bool false]) ?_ 0 _ rfl; (with_reducible repeat (first | apply blk_drewN | apply blk_drew | apply blk_alloc)); exact BK247.out⟩
                    have n8_ : Aside0 (Below w.heap.size w (((((((w57.setCell ⟨gb247, 0, none⟩ (.int .i64 ((rd_T34 t225 x58_2).f0))).setCell ⟨gb247, 1, none⟩ (.int .i64 ((rd_T34 t225 x58_2).f1))).setCell ⟨gb247, 2, none⟩ (.string ((rd_T34 t225 x58_2).f2))).setCell ⟨gb247, 3, none⟩ (.string ((rd_T34 t225 x58_2).f3))).setCell ⟨gb247, 4, none⟩ (.int .i64 ((rd_T34 t225 x58_2).f4))).setCell ⟨gb247, 5, none⟩ (.int .i64 ((rd_T34 t225 x58_2).f5))).setCell ⟨gb247, 6, none⟩ (.bool ((rd_T34 t225 x58_2).f6)))) := ⟨by with_reducible repeat (first | exact HB.out | apply below_alloc | apply pw_below_drewN | apply below_drew1 | refine below_set ?_ GE228.out | refine below_set ?_ GE245.out | refine below_set ?_ GE247.out)⟩
                    (try clear HO_5)
                    (try clear HO_7)
                    (try clear HO_49)
                    (try clear HO_56)
                    (try clear HO_229001)
                    (try clear BK228)
                    (try clear BK245)
                    (try clear BK247)
                    (try clear HB)
                    generalize (((((((w57.setCell ⟨gb247, 0, none⟩ (.int .i64 ((rd_T34 t225 x58_2).f0))).setCell ⟨gb247, 1, none⟩ (.int .i64 ((rd_T34 t225 x58_2).f1))).setCell ⟨gb247, 2, none⟩ (.string ((rd_T34 t225 x58_2).f2))).setCell ⟨gb247, 3, none⟩ (.string ((rd_T34 t225 x58_2).f3))).setCell ⟨gb247, 4, none⟩ (.int .i64 ((rd_T34 t225 x58_2).f4))).setCell ⟨gb247, 5, none⟩ (.int .i64 ((rd_T34 t225 x58_2).f5))).setCell ⟨gb247, 6, none⟩ (.bool ((rd_T34 t225 x58_2).f6))) = w63 at n0_ n1_ n2_ n3_ n4_ n5_ n6_ n7_ n8_ ⊢
                    have HO_5 := n0_
                    have HO_7 := n1_
                    have HO_49 := n2_
                    have HO_56 := n3_
                    have HO_229001 := n4_
                    have BK228 := n5_
                    have BK245 := n6_
                    have BK247 := n7_
                    have HB := n8_
                    clear n0_ n1_ n2_ n3_ n4_ n5_ n6_ n7_ n8_
                    have n0_ := Aside0.mk (Kd.R_drew HO_5.out)
                    have n1_ := Aside0.mk (Kd.R_drew HO_7.out)
                    have n2_ := Aside0.mk (Kd.R_drew HO_49.out)
                    have n3_ := Aside0.mk (Kd.R_drew HO_56.out)
                    have n4_ := Aside0.mk (Kd.R_drew HO_229001.out)
                    have n5_ := Aside0.mk (blk_drew BK228.out)
                    have n6_ := Aside0.mk (blk_drew BK245.out)
                    have n7_ := Aside0.mk (blk_drew BK247.out)
                    have n8_ := Aside0.mk (below_drew1 HB.out)
                    clear HO_5
                    clear HO_7
                    clear HO_49
                    clear HO_56
                    clear HO_229001
                    clear BK228
                    clear BK245
                    clear BK247
                    clear HB
                    have HO_5 := n0_
                    have HO_7 := n1_
                    have HO_49 := n2_
                    have HO_56 := n3_
                    have HO_229001 := n4_
                    have BK228 := n5_
                    have BK245 := n6_
                    have BK247 := n7_
                    have HB := n8_
                    clear n0_ n1_ n2_ n3_ n4_ n5_ n6_ n7_ n8_
                    obtain ⟨Ao65, co65, eo65⟩ := Kd.R_slice HO_7.out
                    (first | subst eo65 | (injection eo65 with f1_ f2_ f3_; have f4_ := f1_.symm; have f5_ := f3_.symm; clear f1_ f2_ f3_; subst f4_; subst f5_))
                    have p250 : 0 ≤ (x58_2 : Int) := of_decide_eq_true (by assumption)
                    have q250 : x58_2 < (x7_2.length : Int) := of_decide_eq_true (by assumption)
                    obtain ⟨ad250, e250, hx250_0⟩ := Kd.at_int (Kd.R_reads' HO_7.out).2.2 x58_2 p250 q250
                    cases e250
                    replace p250 := eq_true p250
                    replace q250 := eq_true q250
                    have p56 : 0 ≤ (x58_2 : Int) := of_decide_eq_true (by assumption)
                    have q56 : (x58_2 : Int) < ((x7_2.length : Int) : Int) := of_decide_eq_true (by assumption)
                    obtain ⟨go56, co56, eo56, gb56, gl56, cl56, HG56⟩ := Kd.R_form HO_7.out (by omega)
                    (first | cases eo56 | (injection eo56 with ea_ en_ ec_; (first | subst ea_ | (injection ea_ with ea_; subst ea_)); subst ec_; clear en_))
                    have GB56 := Aside0.mk gb56
                    have GG56 := Aside0.mk HG56
                    clear gb56 gl56 HG56
                    (first | simp only [add_plain] at hx250_0 | skip)
                    obtain ⟨hx56_0, hf56_0⟩ := Kd.R_celln 0 HO_7.out (x58_2 : Int) p56 q56
                    replace p56 := eq_true p56
                    replace q56 := eq_true q56
                    have HP66 := Kd.R_putn HO_7.out (x58_2 : Int) (wrap64 ((rd x7_2 x58_2) + (wrap64 (((rd_T36 t229 x51_1).f2) - ((rd_T36 t229 x51_1).f1)))))
                    rw [← Ny251.out] at HP66
                    have HQ66 := Aside0.mk HP66
                    clear HP66
                    refine start_ (n := 12) (S := fun w' => w'.cell? ⟨gb245, 0, none⟩ = some (.int .i64 ((rd_T36 t229 x51_1).f0)) ∧ w'.cell? ⟨gb245, 1, none⟩ = some (.int .i64 ((rd_T36 t229 x51_1).f1)) ∧ w'.cell? ⟨gb245, 2, none⟩ = some (.int .i64 ((rd_T36 t229 x51_1).f2)) ∧ w'.cell? ⟨go56, (x58_2).toNat, none⟩ = some (.int .i64 (rd x7_2 x58_2))) (ds := [11]) #[false, false, false, false, false, false, false, false, false, false, false, false] (by kernel_rfl) rfl rfl ⟨(blk_cell BK245.out 0).trans rfl, (blk_cell BK245.out 1).trans rfl, (blk_cell BK245.out 2).trans rfl, hx250_0⟩ (fun hHeld => ?_); refine with_tabW laws_FnCritical.tab21 laws_FnCritical.bits21 (fun HT_ HW_ => ?_)
                    generalize w63.drew = w64 at HO_5 HO_7 HO_49 HO_56 HO_229001 BK228 BK245 BK247 HB GG56 HQ66 hf56_0 hx250_0 hx56_0 hHeld ⊢
                    refine pure_ (i := 0) (N := some 80) (v := ?_) (a' := ?_) #[true, false, false, false, false, false, false, false, false, false, false, false] rfl rfl (any_of HT_.out (by kernel_rfl)) (fun _ _ _ h => h) (Or.inl ⟨by rfl, ?_⟩) ?_ ?_
                    rotate_left
                    ·intro w'
                     go_simp
                     with_reducible rfl
                    rotate_left
                    ·simp only [Act.put, List.setIfInBounds_toArray, List.set_cons_zero, List.set_cons_succ, i64_w, i32_w]
                     rfl
                    refine pure_ (i := 1) (N := some 81) (v := ?_) (a' := ?_) #[true, true, false, false, false, false, false, false, false, false, false, false] rfl rfl (any_of HT_.out (by kernel_rfl)) (fun _ _ _ h => h) (Or.inl ⟨by rfl, ?_⟩) ?_ ?_
                    rotate_left
                    ·intro w'
                     go_simp
                     with_reducible rfl
                    rotate_left
                    ·simp only [Act.put, List.setIfInBounds_toArray, List.set_cons_zero, List.set_cons_succ, i64_w, i32_w]
                     rfl
                    refine pure_ (i := 2) (N := some 82) (v := ?_) (a' := ?_) #[true, true, true, false, false, false, false, false, false, false, false, false] rfl rfl (any_of HT_.out (by kernel_rfl)) (fun _ _ _ h => h) (Or.inl ⟨by rfl, ?_⟩) ?_ ?_
                    rotate_left
                    ·intro w'
                     go_simp
                     with_reducible rfl
                    rotate_left
                    ·simp only [Act.put, List.setIfInBounds_toArray, List.set_cons_zero, List.set_cons_succ, i64_w, i32_w]
                     rfl
                    refine pure_ (i := 4) (N := some 84) (v := ?_) (a' := ?_) #[true, true, true, false, true, false, false, false, false, false, false, false] rfl rfl (any_of HT_.out (by kernel_rfl)) (fun _ _ _ h => h) (Or.inl ⟨by rfl, ?_⟩) ?_ ?_
                    rotate_left
                    ·intro w'
                     go_simp
                     with_reducible rfl
                    rotate_left
                    ·simp only [Act.put, List.setIfInBounds_toArray, List.set_cons_zero, List.set_cons_succ, i64_w, i32_w]
                     rfl
                    refine pure_ (i := 6) (N := some 86) (v := ?_) (a' := ?_) #[true, true, true, false, true, false, true, false, false, false, false, false] rfl rfl (any_of HT_.out (by kernel_rfl)) (fun _ _ _ h => h) (Or.inl ⟨by rfl, ?_⟩) ?_ ?_
                    rotate_left
                    ·intro w'
                     go_simp
                     with_reducible rfl
                    rotate_left
                    ·simp only [Act.put, List.setIfInBounds_toArray, List.set_cons_zero, List.set_cons_succ, i64_w, i32_w]
                     rfl
                    refine take_ (i := 3) (N := some 83) (v := ?_) (a' := ?_) #[true, true, true, true, true, false, true, false, false, false, false, false] rfl rfl (take_ofW HT_.out HW_.out (by kernel_rfl)) (fun _ _ _ h => h) (Or.inl ⟨by rfl, ?_⟩) hHeld ?_ ?_
                    rotate_left
                    ·rintro w' ⟨s0, s1, s2, s3⟩
                     go_simp
                     with_reducible rfl
                    rotate_left
                    ·simp only [Act.put, List.setIfInBounds_toArray, List.set_cons_zero, List.set_cons_succ, i64_w, i32_w]
                     rfl
                    refine take_ (i := 5) (N := some 85) (v := ?_) (a' := ?_) #[true, true, true, true, true, true, true, false, false, false, false, false] rfl rfl (take_ofW HT_.out HW_.out (by kernel_rfl)) (fun _ _ _ h => h) (Or.inl ⟨by rfl, ?_⟩) hHeld ?_ ?_
                    rotate_left
                    ·rintro w' ⟨s0, s1, s2, s3⟩
                     go_simp
                     with_reducible rfl
                    rotate_left
                    ·simp only [Act.put, List.setIfInBounds_toArray, List.set_cons_zero, List.set_cons_succ, i64_w, i32_w]
                     rfl
                    refine take_ (i := 7) (N := some 87) (v := ?_) (a' := ?_) #[true, true, true, true, true, true, true, true, false, false, false, false] rfl rfl (take_ofW HT_.out HW_.out (by kernel_rfl)) (fun _ _ _ h => h) (Or.inl ⟨by rfl, ?_⟩) hHeld ?_ ?_
                    rotate_left
                    ·rintro w' ⟨s0, s1, s2, s3⟩
                     go_simp
                     with_reducible rfl
                    rotate_left
                    ·simp only [Act.put, List.setIfInBounds_toArray, List.set_cons_zero, List.set_cons_succ, i64_w, i32_w]
                     rfl
                    refine pure_ (i := 8) (N := some 88) (v := ?_) (a' := ?_) #[true, true, true, true, true, true, true, true, true, false, false, false] rfl rfl (any_of HT_.out (by kernel_rfl)) (fun _ _ _ h => h) (Or.inl ⟨by rfl, ?_⟩) ?_ ?_
                    rotate_left
                    ·intro w'
                     go_simp
                     with_reducible rfl
                    rotate_left
                    ·simp only [Act.put, List.setIfInBounds_toArray, List.set_cons_zero, List.set_cons_succ, i64_w, i32_w]
                     rfl
                    refine pure_ (i := 9) (N := some 89) (v := ?_) (a' := ?_) #[true, true, true, true, true, true, true, true, true, true, false, false] rfl rfl (any_of HT_.out (by kernel_rfl)) (fun _ _ _ h => h) (Or.inl ⟨by rfl, ?_⟩) ?_ ?_
                    rotate_left
                    ·intro w'
                     go_simp
                     with_reducible rfl
                    rotate_left
                    ·simp only [Act.put, List.setIfInBounds_toArray, List.set_cons_zero, List.set_cons_succ, i64_w, i32_w]
                     rfl
                    refine pure_ (i := 10) (N := some 90) (v := ?_) (a' := ?_) #[true, true, true, true, true, true, true, true, true, true, true, false] rfl rfl (any_of HT_.out (by kernel_rfl)) (fun _ _ _ h => h) (Or.inl ⟨by rfl, ?_⟩) ?_ ?_
                    rotate_left
                    ·intro w'
                     go_simp
                     with_reducible rfl
                    rotate_left
                    ·simp only [Act.put, List.setIfInBounds_toArray, List.set_cons_zero, List.set_cons_succ, i64_w, i32_w]
                     rfl
                    refine last_ (i := 11) (N := none) #[true, true, true, true, true, true, true, true, true, true, true, true] rfl rfl (one_of HT_.out (by kernel_rfl)) (by decide) (fun K hK => ?_)
                    refine skip_ (w1 := ?_) (by rfl) rfl ?_ ?_
                    rotate_left
                    ·go_simp
                     rfl
                    refine hK.out _ _ ?_
                    clear hK K
                    refine done_ (done_of HT_.out (by kernel_rfl)) ?_
                    try go_wp2
                    go_roundg k2
                    case measure => have := HK1.out; have := HK2.out; omega
                    case rel => exact ⟨(y251), (false), (wrap64 (x58_2 + 1)), (by first | rfl | (simp; done) | (simp [*]; done)), (by first | rfl | (simp; done) | (simp [*]; done)), H', ⟨by have := HK1.out; have := HK2.out; omega⟩, ⟨by (with_reducible repeat (first | apply Kd.R_alloc | apply Kd.R_drewN | apply Kd.R_drew)); exact Kd.R_mono (Kd.R_far (p := ⟨go56, (x58_2 : Int).toNat, none⟩) (Kd.R_mono HO_5.out (fun k_ hk => (⟨hk, fun e_ => hk (by rw [e_]; rfl)⟩ : _ ∧ k_ ≠ go56))) (fun _ hk => hk.2) (.int .i64 (wrap64 ((rd x7_2 x58_2) + (wrap64 (((rd_T36 t229 x51_1).f2) - ((rd_T36 t229 x51_1).f1))))))) (fun _ hk => hk.1)⟩, ⟨by (with_reducible repeat (first | apply Kd.R_alloc | apply Kd.R_drewN | apply Kd.R_drew)); exact HQ66.out⟩, ⟨by (with_reducible repeat (first | apply Kd.R_alloc | apply Kd.R_drewN | apply Kd.R_drew)); exact Kd.R_mono (Kd.R_far (p := ⟨go56, (x58_2 : Int).toNat, none⟩) (Kd.R_types HO_49.out GG56.out (by decide)) (fun _ hk => hk.2) (.int .i64 (wrap64 ((rd x7_2 x58_2) + (wrap64 (((rd_T36 t229 x51_1).f2) - ((rd_T36 t229 x51_1).f1))))))) (fun _ hk => hk.1)⟩, ⟨by (with_reducible repeat (first | apply Kd.R_alloc | apply Kd.R_drewN | apply Kd.R_drew)); exact Kd.R_mono (Kd.R_far (p := ⟨go56, (x58_2 : Int).toNat, none⟩) (Kd.R_types HO_56.out GG56.out (by decide)) (fun _ hk => hk.2) (.int .i64 (wrap64 ((rd x7_2 x58_2) + (wrap64 (((rd_T36 t229 x51_1).f2) - ((rd_T36 t229 x51_1).f1))))))) (fun _ hk => trivial)⟩, ⟨by (with_reducible repeat (first | apply Kd.R_alloc | apply Kd.R_drewN | apply Kd.R_drew)); exact Kd.R_mono (Kd.R_far (p := ⟨go56, (x58_2 : Int).toNat, none⟩) (Kd.R_types HO_229001.out GG56.out (by decide)) (fun _ hk => hk.2) (.int .i64 (wrap64 ((rd x7_2 x58_2) + (wrap64 (((rd_T36 t229 x51_1).f2) - ((rd_T36 t229 x51_1).f1))))))) (fun _ hk => trivial)⟩, ⟨by (with_reducible repeat (first | apply blk_drewN | apply blk_drew | apply blk_alloc)); refine blk_far ?_ (by have h_ := Kd.R_ne HO_7.out BK228.out (by decide); intro e_; exact h_ (by rw [e_]; rfl)) _; (with_reducible repeat (first | apply blk_drewN | apply blk_drew | apply blk_alloc)); exact BK228.out⟩, ⟨by (with_reducible repeat (first | apply blk_drewN | apply blk_drew | apply blk_alloc)); refine blk_far ?_ (by have h_ := Kd.R_ne HO_7.out BK245.out (by decide); intro e_; exact h_ (by rw [e_]; rfl)) _; (with_reducible repeat (first | apply blk_drewN | apply blk_drew | apply blk_alloc)); exact BK245.out⟩, ⟨by with_reducible repeat (first | exact HB.out | apply below_alloc | apply pw_below_drewN | apply below_drew1 | refine below_set ?_ GB56.out | refine below_set ?_ GE228.out | refine below_set ?_ GE245.out | refine below_set ?_ GE247.out)⟩⟩
                   ·rw [if_neg c55] at H
                    exact absurd H (by simp)
                 ·rw [if_neg c41] at H
                  have c41b0 : (((rd_T34 t225 x58_2).f0) == ((rd_T36 t229 x51_1).f0)) = false := beq_eq_false_iff_ne.mpr c41
                  have c41b1 : (((rd_T34 t225 x58_2).f0) != ((rd_T36 t229 x51_1).f0)) = true := bne_iff_ne.mpr c41
                  have H' := Aside0.mk H
                  clear H
                  have p246 : 0 ≤ (x58_2 : Int) := of_decide_eq_true (by assumption)
                  have q246 : x58_2 < (t225.length : Int) := of_decide_eq_true (by assumption)
                  obtain ⟨ad246, e246, hx246_0, hx246_1, hx246_2, hx246_3, hx246_4, hx246_5, hx246_6⟩ := at_T34 (Kd.R_reads' HO_56.out).2.2 x58_2 p246 q246
                  obtain rfl : ad240 = ad246 := (by injection e246)
                  replace p246 := eq_true p246
                  replace q246 := eq_true q246
                  go_wp2_with (first | ((with_reducible refine gate_dst (N := 12) rfl ?_); (try (refine gate_guard (by rfl) ?_; dsimp only)); refine box_event ?hg (N := 12) ?hd (cs := #[.int .i64 0, .int .i64 0, .string ⟨#[]⟩, .string ⟨#[]⟩, .int .i64 0, .int .i64 0, .bool false]) (t := 34) ?hr ?_; (case hd => rfl); (case hg => rfl); (case hr => first | (go_simp; done) | (go_simp; rfl)); intro gb247 hg w67 hbox hb; have n0_ := Aside0.mk (Kd.R_below (by (with_reducible repeat (first | apply Kd.R_alloc | apply Kd.R_drewN | apply Kd.R_drew)); exact HO_5.out) hb); have n1_ := Aside0.mk (Kd.R_below (by (with_reducible repeat (first | apply Kd.R_alloc | apply Kd.R_drewN | apply Kd.R_drew)); exact HO_7.out) hb); have n2_ := Aside0.mk (Kd.R_below (by (with_reducible repeat (first | apply Kd.R_alloc | apply Kd.R_drewN | apply Kd.R_drew)); exact HO_49.out) hb); have n3_ := Aside0.mk (Kd.R_below (Kd.R_elderB (by (with_reducible repeat (first | apply Kd.R_alloc | apply Kd.R_drewN | apply Kd.R_drew)); exact HO_56.out) gb247 (Nat.le_of_eq hg.symm)) hb); have n4_ := Aside0.mk (Kd.R_below (Kd.R_elderB (by (with_reducible repeat (first | apply Kd.R_alloc | apply Kd.R_drewN | apply Kd.R_drew)); exact HO_229001.out) gb247 (Nat.le_of_eq hg.symm)) hb); have n5_ := Aside0.mk (blk_below (g := gb228) (by (with_reducible repeat (first | apply blk_drewN | apply blk_drew | apply blk_alloc)); exact BK228.out) hb); have n6_ := Aside0.mk (blk_below (g := gb245) (by (with_reducible repeat (first | apply blk_drewN | apply blk_drew | apply blk_alloc)); exact BK245.out) hb); have n7_ := Aside0.mk (below_step (by with_reducible repeat (first | exact HB.out | apply below_alloc | apply pw_below_drewN | apply below_drew1 | refine below_set ?_ GE228.out | refine below_set ?_ GE245.out)) hb); have n8_ := Aside0.mk (hbox); have n9_ := Aside0.mk ((by rw [hg]; exact (below_size (by with_reducible repeat (first | exact HB.out | apply below_alloc | apply pw_below_drewN | apply below_drew1 | refine below_set ?_ GE228.out | refine below_set ?_ GE245.out))) : w.heap.size ≤ gb247)); have n10_ := n9_; have n11_ := Aside0.mk ((by rw [hg]; exact Nat.ne_of_lt (blk_lt (g := gb228) (by (with_reducible repeat (first | apply blk_drewN | apply blk_drew | apply blk_alloc)); exact BK228.out)) : gb228 ≠ gb247)); have n12_ := Aside0.mk ((by rw [hg]; exact Nat.ne_of_gt (blk_lt (g := gb228) (by (with_reducible repeat (first | apply blk_drewN | apply blk_drew | apply blk_alloc)); exact BK228.out)) : gb247 ≠ gb228)); have n13_ := Aside0.mk ((by rw [hg]; exact Nat.ne_of_lt (blk_lt (g := gb245) (by (with_reducible repeat (first | apply blk_drewN | apply blk_drew | apply blk_alloc)); exact BK245.out)) : gb245 ≠ gb247)); have n14_ := Aside0.mk ((by rw [hg]; exact Nat.ne_of_gt (blk_lt (g := gb245) (by (with_reducible repeat (first | apply blk_drewN | apply blk_drew | apply blk_alloc)); exact BK245.out)) : gb247 ≠ gb245)); clear HO_5; clear HO_7; clear HO_49; clear HO_56; clear HO_229001; clear BK228; clear BK245; clear HB; have HO_5 := n0_; have HO_7 := n1_; have HO_49 := n2_; have HO_56 := n3_; have HO_229001 := n4_; have BK228 := n5_; have BK245 := n6_; have HB := n7_; have BK247 := n8_; have GW247 := n9_; have GE247 := n10_; have NB228_247 := n11_; have NB247_228 := n12_; have NB245_247 := n13_; have NB247_245 := n14_; clear n0_ n1_ n2_ n3_ n4_ n5_ n6_ n7_ n8_ n9_ n10_ n11_ n12_ n13_ n14_; clear hb hbox hg; have hnb68 := NB247_228.out; have hnc68 := NB228_247.out; have hnb69 := NB247_245.out; have hnc69 := NB245_247.out; have hcz70_0 : w67.cell? ⟨gb247, 0, none⟩ = some (.int .i64 0) := (blk_cell BK247.out 0).trans rfl; have hcz70_1 : w67.cell? ⟨gb247, 1, none⟩ = some (.int .i64 0) := (blk_cell BK247.out 1).trans rfl; have hcz70_2 : w67.cell? ⟨gb247, 2, none⟩ = some (.string ⟨#[]⟩) := (blk_cell BK247.out 2).trans rfl; have hcz70_3 : w67.cell? ⟨gb247, 3, none⟩ = some (.string ⟨#[]⟩) := (blk_cell BK247.out 3).trans rfl; have hcz70_4 : w67.cell? ⟨gb247, 4, none⟩ = some (.int .i64 0) := (blk_cell BK247.out 4).trans rfl; have hcz70_5 : w67.cell? ⟨gb247, 5, none⟩ = some (.int .i64 0) := (blk_cell BK247.out 5).trans rfl; have hcz70_6 : w67.cell? ⟨gb247, 6, none⟩ = some (.bool false) := (blk_cell BK247.out 6).trans rfl; have hfz70_0 := blk_frozen BK247.out 0; have hfz70_1 := blk_frozen BK247.out 1; have hfz70_2 := blk_frozen BK247.out 2; have hfz70_3 := blk_frozen BK247.out 3; have hfz70_4 := blk_frozen BK247.out 4; have hfz70_5 := blk_frozen BK247.out 5; have hfz70_6 := blk_frozen BK247.out 6; have hnb71 := NB245_228.out; have hnc71 := NB228_245.out; have hcz72_0 : w67.cell? ⟨gb245, 0, none⟩ = some (.int .i64 ((rd_T36 t229 x51_1).f0)) := (blk_cell BK245.out 0).trans rfl; have hcz72_1 : w67.cell? ⟨gb245, 1, none⟩ = some (.int .i64 ((rd_T36 t229 x51_1).f1)) := (blk_cell BK245.out 1).trans rfl; have hcz72_2 : w67.cell? ⟨gb245, 2, none⟩ = some (.int .i64 ((rd_T36 t229 x51_1).f2)) := (blk_cell BK245.out 2).trans rfl; have hfz72_0 := blk_frozen BK245.out 0; have hfz72_1 := blk_frozen BK245.out 1; have hfz72_2 := blk_frozen BK245.out 2))
                  go_roundg k2
                  case measure => have := HK1.out; have := HK2.out; omega
                  case rel => exact ⟨(x7_2), (x10_2), (wrap64 (x58_2 + 1)), (by first | rfl | (simp; done) | (simp [*]; done)), (by first | rfl | (simp; done) | (simp [*]; done)), H', ⟨by have := HK1.out; have := HK2.out; omega⟩, ⟨by (with_reducible repeat (first | apply Kd.R_alloc | apply Kd.R_drewN | apply Kd.R_drew)); exact Kd.R_mono (Kd.R_far (p := ⟨gb247, 6, none⟩) (Kd.R_far (p := ⟨gb247, 5, none⟩) (Kd.R_far (p := ⟨gb247, 4, none⟩) (Kd.R_far (p := ⟨gb247, 3, none⟩) (Kd.R_far (p := ⟨gb247, 2, none⟩) (Kd.R_far (p := ⟨gb247, 1, none⟩) (Kd.R_far (p := ⟨gb247, 0, none⟩) (Kd.R_types HO_5.out BK247.out (by decide)) (fun _ hk => hk.2) (.int .i64 ((rd_T34 t225 x58_2).f0))) (fun _ hk => hk.2) (.int .i64 ((rd_T34 t225 x58_2).f1))) (fun _ hk => hk.2) (.string ((rd_T34 t225 x58_2).f2))) (fun _ hk => hk.2) (.string ((rd_T34 t225 x58_2).f3))) (fun _ hk => hk.2) (.int .i64 ((rd_T34 t225 x58_2).f4))) (fun _ hk => hk.2) (.int .i64 ((rd_T34 t225 x58_2).f5))) (fun _ hk => hk.2) (.bool ((rd_T34 t225 x58_2).f6))) (fun _ hk => hk.1)⟩, ⟨by (with_reducible repeat (first | apply Kd.R_alloc | apply Kd.R_drewN | apply Kd.R_drew)); exact Kd.R_mono (Kd.R_far (p := ⟨gb247, 6, none⟩) (Kd.R_far (p := ⟨gb247, 5, none⟩) (Kd.R_far (p := ⟨gb247, 4, none⟩) (Kd.R_far (p := ⟨gb247, 3, none⟩) (Kd.R_far (p := ⟨gb247, 2, none⟩) (Kd.R_far (p := ⟨gb247, 1, none⟩) (Kd.R_far (p := ⟨gb247, 0, none⟩) (Kd.R_types HO_7.out BK247.out (by decide)) (fun _ hk => hk.2) (.int .i64 ((rd_T34 t225 x58_2).f0))) (fun _ hk => hk.2) (.int .i64 ((rd_T34 t225 x58_2).f1))) (fun _ hk => hk.2) (.string ((rd_T34 t225 x58_2).f2))) (fun _ hk => hk.2) (.string ((rd_T34 t225 x58_2).f3))) (fun _ hk => hk.2) (.int .i64 ((rd_T34 t225 x58_2).f4))) (fun _ hk => hk.2) (.int .i64 ((rd_T34 t225 x58_2).f5))) (fun _ hk => hk.2) (.bool ((rd_T34 t225 x58_2).f6))) (fun _ hk => hk.1)⟩, ⟨by (with_reducible repeat (first | apply Kd.R_alloc | apply Kd.R_drewN | apply Kd.R_drew)); exact Kd.R_mono (Kd.R_far (p := ⟨gb247, 6, none⟩) (Kd.R_far (p := ⟨gb247, 5, none⟩) (Kd.R_far (p := ⟨gb247, 4, none⟩) (Kd.R_far (p := ⟨gb247, 3, none⟩) (Kd.R_far (p := ⟨gb247, 2, none⟩) (Kd.R_far (p := ⟨gb247, 1, none⟩) (Kd.R_far (p := ⟨gb247, 0, none⟩) (Kd.R_types HO_49.out BK247.out (by decide)) (fun _ hk => hk.2) (.int .i64 ((rd_T34 t225 x58_2).f0))) (fun _ hk => hk.2) (.int .i64 ((rd_T34 t225 x58_2).f1))) (fun _ hk => hk.2) (.string ((rd_T34 t225 x58_2).f2))) (fun _ hk => hk.2) (.string ((rd_T34 t225 x58_2).f3))) (fun _ hk => hk.2) (.int .i64 ((rd_T34 t225 x58_2).f4))) (fun _ hk => hk.2) (.int .i64 ((rd_T34 t225 x58_2).f5))) (fun _ hk => hk.2) (.bool ((rd_T34 t225 x58_2).f6))) (fun _ hk => hk.1)⟩, ⟨by (with_reducible repeat (first | apply Kd.R_alloc | apply Kd.R_drewN | apply Kd.R_drew)); exact Kd.R_mono (Kd.R_far (p := ⟨gb247, 6, none⟩) (Kd.R_far (p := ⟨gb247, 5, none⟩) (Kd.R_far (p := ⟨gb247, 4, none⟩) (Kd.R_far (p := ⟨gb247, 3, none⟩) (Kd.R_far (p := ⟨gb247, 2, none⟩) (Kd.R_far (p := ⟨gb247, 1, none⟩) (Kd.R_far (p := ⟨gb247, 0, none⟩) (Kd.R_mono HO_56.out (fun k_ hk => (⟨hk, hk.2⟩ : _ ∧ k_ ≠ gb247))) (fun _ hk => hk.2) (.int .i64 ((rd_T34 t225 x58_2).f0))) (fun _ hk => hk.2) (.int .i64 ((rd_T34 t225 x58_2).f1))) (fun _ hk => hk.2) (.string ((rd_T34 t225 x58_2).f2))) (fun _ hk => hk.2) (.string ((rd_T34 t225 x58_2).f3))) (fun _ hk => hk.2) (.int .i64 ((rd_T34 t225 x58_2).f4))) (fun _ hk => hk.2) (.int .i64 ((rd_T34 t225 x58_2).f5))) (fun _ hk => hk.2) (.bool ((rd_T34 t225 x58_2).f6))) (fun _ hk => trivial)⟩, ⟨by (with_reducible repeat (first | apply Kd.R_alloc | apply Kd.R_drewN | apply Kd.R_drew)); exact Kd.R_mono (Kd.R_far (p := ⟨gb247, 6, none⟩) (Kd.R_far (p := ⟨gb247, 5, none⟩) (Kd.R_far (p := ⟨gb247, 4, none⟩) (Kd.R_far (p := ⟨gb247, 3, none⟩) (Kd.R_far (p := ⟨gb247, 2, none⟩) (Kd.R_far (p := ⟨gb247, 1, none⟩) (Kd.R_far (p := ⟨gb247, 0, none⟩) (Kd.R_mono HO_229001.out (fun k_ hk => (⟨hk, hk.2⟩ : _ ∧ k_ ≠ gb247))) (fun _ hk => hk.2) (.int .i64 ((rd_T34 t225 x58_2).f0))) (fun _ hk => hk.2) (.int .i64 ((rd_T34 t225 x58_2).f1))) (fun _ hk => hk.2) (.string ((rd_T34 t225 x58_2).f2))) (fun _ hk => hk.2) (.string ((rd_T34 t225 x58_2).f3))) (fun _ hk => hk.2) (.int .i64 ((rd_T34 t225 x58_2).f4))) (fun _ hk => hk.2) (.int .i64 ((rd_T34 t225 x58_2).f5))) (fun _ hk => hk.2) (.bool ((rd_T34 t225 x58_2).f6))) (fun _ hk => trivial)⟩, ⟨by (with_reducible repeat (first | apply blk_drewN | apply blk_drew | apply blk_alloc)); refine blk_far ?_ NB228_247.out _; (with_reducible repeat (first | apply blk_drewN | apply blk_drew | apply blk_alloc)); refine blk_far ?_ NB228_247.out _; (with_reducible repeat (first | apply blk_drewN | apply blk_drew | apply blk_alloc)); refine blk_far ?_ NB228_247.out _; (with_reducible repeat (first | apply blk_drewN | apply blk_drew | apply blk_alloc)); refine blk_far ?_ NB228_247.out _; (with_reducible repeat (first | apply blk_drewN | apply blk_drew | apply blk_alloc)); refine blk_far ?_ NB228_247.out _; (with_reducible repeat (first | apply blk_drewN | apply blk_drew | apply blk_alloc)); refine blk_far ?_ NB228_247.out _; (with_reducible repeat (first | apply blk_drewN | apply blk_drew | apply blk_alloc)); refine blk_far ?_ NB228_247.out _; (with_reducible repeat (first | apply blk_drewN | apply blk_drew | apply blk_alloc)); exact BK228.out⟩, ⟨by (with_reducible repeat (first | apply blk_drewN | apply blk_drew | apply blk_alloc)); refine blk_far ?_ NB245_247.out _; (with_reducible repeat (first | apply blk_drewN | apply blk_drew | apply blk_alloc)); refine blk_far ?_ NB245_247.out _; (with_reducible repeat (first | apply blk_drewN | apply blk_drew | apply blk_alloc)); refine blk_far ?_ NB245_247.out _; (with_reducible repeat (first | apply blk_drewN | apply blk_drew | apply blk_alloc)); refine blk_far ?_ NB245_247.out _; (with_reducible repeat (first | apply blk_drewN | apply blk_drew | apply blk_alloc)); refine blk_far ?_ NB245_247.out _; (with_reducible repeat (first | apply blk_drewN | apply blk_drew | apply blk_alloc)); refine blk_far ?_ NB245_247.out _; (with_reducible repeat (first | apply blk_drewN | apply blk_drew | apply blk_alloc)); refine blk_far ?_ NB245_247.out _; (with_reducible repeat (first | apply blk_drewN | apply blk_drew | apply blk_alloc)); exact BK245.out⟩, ⟨by with_reducible repeat (first | exact HB.out | apply below_alloc | apply pw_below_drewN | apply below_drew1 | refine below_set ?_ GE228.out | refine below_set ?_ GE245.out | refine below_set ?_ GE247.out)⟩⟩
                ·rw [if_neg c40] at H
                 exact absurd H (by simp)
               ·rw [if_neg c39] at H
                exact absurd H (by simp)
              ·rw [if_neg c38] at H
               have c38b0 : decide (x58_2 < (t225.length : Int)) = false := decide_eq_false c38
               clear c38
               by_cases c73 : x10_2 = true
               ·subst c73
                have H1 : (if ((rd_T36 t229 x51_1).f1) = x6_1 then (if ((rd_T36 t229 x51_1).f2) ≤ ((rd_T36 t229 x51_1).f1) then (some false) else (laws_FnCritical.l0 k2 t232 ((rd_T36 t229 x51_1).f2) x7_2 t229 (t229.length : Int) (wrap64 (x51_1 + 1)) t224 t225)) else (some false)) = some r := by rw [if_pos rfl] at H; exact H
                clear H
                have H := H1
                clear H1
                by_cases c74 : ((rd_T36 t229 x51_1).f1) = x6_1
                ·rw [if_pos c74] at H
                 have c74b0 : (((rd_T36 t229 x51_1).f1) == x6_1) = true := beq_iff_eq.mpr c74
                 have c74b1 : (((rd_T36 t229 x51_1).f1) != x6_1) = false := bne_eq_false_iff_eq.mpr c74
                 clear c74
                 by_cases c75 : ((rd_T36 t229 x51_1).f2) ≤ ((rd_T36 t229 x51_1).f1)
                 ·rw [if_pos c75] at H
                  have c75b0 : decide (((rd_T36 t229 x51_1).f2) ≤ ((rd_T36 t229 x51_1).f1)) = true := decide_eq_true c75
                  clear c75
                  obtain rfl := Option.some.inj H
                  have hnb76 := NB245_228.out
                  have hnc76 := NB228_245.out
                  have hcz77_0 : wr.cell? ⟨gb245, 0, none⟩ = some (.int .i64 ((rd_T36 t229 x51_1).f0)) := (blk_cell BK245.out 0).trans rfl
                  have hcz77_1 : wr.cell? ⟨gb245, 1, none⟩ = some (.int .i64 ((rd_T36 t229 x51_1).f1)) := (blk_cell BK245.out 1).trans rfl
                  have hcz77_2 : wr.cell? ⟨gb245, 2, none⟩ = some (.int .i64 ((rd_T36 t229 x51_1).f2)) := (blk_cell BK245.out 2).trans rfl
                  have hfz77_0 := blk_frozen BK245.out 0
                  have hfz77_1 := blk_frozen BK245.out 1
                  have hfz77_2 := blk_frozen BK245.out 2
                  go_wp2
                  go_ret
                  exact ⟨by first | rfl | (simp [bne]; done) | (simp [*] <;> rfl), by with_reducible repeat (first | exact HB.out | apply below_alloc | apply pw_below_drewN | apply below_drew1 | refine below_set ?_ GE228.out | refine below_set ?_ GE245.out)⟩
                 ·rw [if_neg c75] at H
                  have c75b0 : decide (((rd_T36 t229 x51_1).f2) ≤ ((rd_T36 t229 x51_1).f1)) = false := decide_eq_false c75
                  clear c75
                  have H' := Aside0.mk H
                  clear H
                  have hnb78 := NB245_228.out
                  have hnc78 := NB228_245.out
                  have hcz79_0 : wr.cell? ⟨gb245, 0, none⟩ = some (.int .i64 ((rd_T36 t229 x51_1).f0)) := (blk_cell BK245.out 0).trans rfl
                  have hcz79_1 : wr.cell? ⟨gb245, 1, none⟩ = some (.int .i64 ((rd_T36 t229 x51_1).f1)) := (blk_cell BK245.out 1).trans rfl
                  have hcz79_2 : wr.cell? ⟨gb245, 2, none⟩ = some (.int .i64 ((rd_T36 t229 x51_1).f2)) := (blk_cell BK245.out 2).trans rfl
                  have hfz79_0 := blk_frozen BK245.out 0
                  have hfz79_1 := blk_frozen BK245.out 1
                  have hfz79_2 := blk_frozen BK245.out 2
                  go_wp2
                  go_roundg k2
                  case measure => have := HK1.out; have := HK2.out; omega
                  case rel => exact ⟨(((rd_T36 t229 x51_1).f2)), (x7_2), (wrap64 (x51_1 + 1)), (by first | rfl | (simp; done) | (simp [*]; done)), (by first | rfl | (simp; done) | (simp [*]; done)), H', ⟨by have := HK1.out; have := HK2.out; omega⟩, ⟨by (with_reducible repeat (first | apply Kd.R_alloc | apply Kd.R_drewN | apply Kd.R_drew)); exact HO_5.out⟩, ⟨by (with_reducible repeat (first | apply Kd.R_alloc | apply Kd.R_drewN | apply Kd.R_drew)); exact HO_7.out⟩, ⟨by (with_reducible repeat (first | apply Kd.R_alloc | apply Kd.R_drewN | apply Kd.R_drew)); exact Kd.R_mono HO_49.out (fun _ hk => trivial)⟩, ⟨by (with_reducible repeat (first | apply Kd.R_alloc | apply Kd.R_drewN | apply Kd.R_drew)); exact HO_229001.out⟩, ⟨by (with_reducible repeat (first | apply blk_drewN | apply blk_drew | apply blk_alloc)); exact BK228.out⟩, ⟨by with_reducible repeat (first | exact HB.out | apply below_alloc | apply pw_below_drewN | apply below_drew1 | refine below_set ?_ GE228.out | refine below_set ?_ GE245.out)⟩⟩
                ·rw [if_neg c74] at H
                 have c74b0 : (((rd_T36 t229 x51_1).f1) == x6_1) = false := beq_eq_false_iff_ne.mpr c74
                 have c74b1 : (((rd_T36 t229 x51_1).f1) != x6_1) = true := bne_iff_ne.mpr c74
                 obtain rfl := Option.some.inj H
                 have hnb80 := NB245_228.out
                 have hnc80 := NB228_245.out
                 have hcz81_0 : wr.cell? ⟨gb245, 0, none⟩ = some (.int .i64 ((rd_T36 t229 x51_1).f0)) := (blk_cell BK245.out 0).trans rfl
                 have hcz81_1 : wr.cell? ⟨gb245, 1, none⟩ = some (.int .i64 ((rd_T36 t229 x51_1).f1)) := (blk_cell BK245.out 1).trans rfl
                 have hcz81_2 : wr.cell? ⟨gb245, 2, none⟩ = some (.int .i64 ((rd_T36 t229 x51_1).f2)) := (blk_cell BK245.out 2).trans rfl
                 have hfz81_0 := blk_frozen BK245.out 0
                 have hfz81_1 := blk_frozen BK245.out 1
                 have hfz81_2 := blk_frozen BK245.out 2
                 go_wp2
                 go_ret
                 exact ⟨by first | rfl | (simp [bne]; done) | (simp [*] <;> rfl), by with_reducible repeat (first | exact HB.out | apply below_alloc | apply pw_below_drewN | apply below_drew1 | refine below_set ?_ GE228.out | refine below_set ?_ GE245.out)⟩
               ·replace c73 := Bool.eq_false_iff.mpr c73
                subst c73
                have H1 : (some false) = some r := by rw [if_neg (show ¬ (false = true) by decide)] at H; exact H
                clear H
                have H := H1
                clear H1
                obtain rfl := Option.some.inj H
                go_wp2
                go_ret
                exact ⟨by first | rfl | (simp [bne]; done) | (simp [*] <;> rfl), by with_reducible repeat (first | exact HB.out | apply below_alloc | apply pw_below_drewN | apply below_drew1 | refine below_set ?_ GE228.out | refine below_set ?_ GE245.out)⟩
           ·rw [if_neg c33] at H
            exact absurd H (by simp)
          ·rw [if_neg c32] at H
           exact absurd H (by simp)
         ·rw [if_neg c31] at H
          have c31b0 : decide (x51_1 < (t229.length : Int)) = false := decide_eq_false c31
          clear c31
          have H' := Aside0.mk H
          clear H
          have hcz82_0 : wr.cell? ⟨gb228, 0, none⟩ = some (.int .i64 t224) := (blk_cell BK228.out 0).trans rfl
          have hcz82_1 : wr.cell? ⟨gb228, 1, none⟩ = some (.slice (some ad240) t225.length co17) := (blk_cell BK228.out 1).trans rfl
          have hfz82_0 := blk_frozen BK228.out 0
          have hfz82_1 := blk_frozen BK228.out 1
          go_wp2
          go_loopg [113] k1 (fun kq v113 w' => ∃ (x113_2 : Int), v113 = .int .i64 x113_2 ∧ Aside0 (laws_FnCritical.l2 kq t232 x6_1 x7_1 t225 (t225.length : Int) x113_2 t224 t225 = some r) ∧ Aside0 (kq ≤ k1) ∧ Aside0 (Kd.R (Kd.int .i64) 3 w' w.heap.size (fun k_ => some k_ ≠ (v242 : Value).ownBlock) (.slice Ao25 t232.length co25) t232) ∧ Aside0 (Kd.R (Kd.int .i64) 3 w' w.heap.size (fun k_ => some k_ ≠ ((.slice Ao25 t232.length co25) : Value).ownBlock) v242 x7_1) ∧ Aside0 (Kd.R k34 34 w' w.heap.size (fun _ => True) (.slice (some ad240) t225.length co17) t225) ∧ Aside0 (Kd.R k34 34 w' w.heap.size (fun _ => True) (.slice (some ad240) t225.length co17) t225) ∧ Aside0 (w'.heap[gb228]? = some (.cells #[.int .i64 t224, (.slice (some ad240) t225.length co17)] 25 (0, 0))) ∧ Aside0 (Below w.heap.size w w'))
          case atStart => exact ⟨(0), (by first | rfl | (simp; done) | (simp [*]; done)), H', ⟨Nat.le_refl _⟩, ⟨by (with_reducible repeat (first | apply Kd.R_alloc | apply Kd.R_drewN | apply Kd.R_drew)); exact HO_5.out⟩, ⟨by (with_reducible repeat (first | apply Kd.R_alloc | apply Kd.R_drewN | apply Kd.R_drew)); exact HO_7.out⟩, ⟨by (with_reducible repeat (first | apply Kd.R_alloc | apply Kd.R_drewN | apply Kd.R_drew)); exact HO_229001.out⟩, ⟨by (with_reducible repeat (first | apply Kd.R_alloc | apply Kd.R_drewN | apply Kd.R_drew)); exact HO_229001.out⟩, ⟨by (with_reducible repeat (first | apply blk_drewN | apply blk_drew | apply blk_alloc)); exact BK228.out⟩, ⟨by with_reducible repeat (first | exact HB.out | apply below_alloc | apply pw_below_drewN | apply below_drew1 | refine below_set ?_ GE228.out)⟩⟩
          case round =>
           clear H'
           obtain ⟨x113_2, rfl, HA, HK2, HO_5, HO_7, HO_111, HO_229001, BK228, HB⟩ := hrel
           cases gk with
           | zero => exact absurd HA.out (by simp [laws_FnCritical.l2])
           | succ k2 =>
            have H := HA.out
            clear HA
            simp only [laws_FnCritical.l2] at H
            by_cases c83 : x113_2 < (t225.length : Int)
            ·rw [if_pos c83] at H
             have c83b0 : decide (x113_2 < (t225.length : Int)) = true := decide_eq_true c83
             clear c83
             by_cases c84 : 0 ≤ x113_2
             ·rw [if_pos c84] at H
              have c84b0 : decide (0 ≤ x113_2) = true := decide_eq_true c84
              clear c84
              by_cases c85 : x113_2 < (t225.length : Int)
              ·rw [if_pos c85] at H
               have c85b0 : decide (x113_2 < (t225.length : Int)) = true := decide_eq_true c85
               clear c85
               by_cases c86 : x113_2 < (x7_1.length : Int)
               ·rw [if_pos c86] at H
                have c86b0 : decide (x113_2 < (x7_1.length : Int)) = true := decide_eq_true c86
                clear c86
                by_cases c87 : x113_2 < (t232.length : Int)
                ·rw [if_pos c87] at H
                 have c87b0 : decide (x113_2 < (t232.length : Int)) = true := decide_eq_true c87
                 clear c87
                 by_cases c88 : (rd x7_1 x113_2) > (rd t232 x113_2)
                 ·rw [if_pos c88] at H
                  have c88b0 : decide ((rd t232 x113_2) < (rd x7_1 x113_2)) = true := decide_eq_true c88
                  clear c88
                  obtain rfl := Option.some.inj H
                  have p252 : 0 ≤ (x113_2 : Int) := of_decide_eq_true (by assumption)
                  have q252 : x113_2 < (t225.length : Int) := of_decide_eq_true (by assumption)
                  obtain ⟨ad252, e252, hx252_0, hx252_1, hx252_2, hx252_3, hx252_4, hx252_5, hx252_6⟩ := at_T34 (Kd.R_reads' HO_111.out).2.2 x113_2 p252 q252
                  obtain rfl : ad240 = ad252 := (by injection e252)
                  replace p252 := eq_true p252
                  replace q252 := eq_true q252
                  try go_wp2_with (first | ((with_reducible refine gate_dst (N := 14) rfl ?_); (try (refine gate_guard (by rfl) ?_; dsimp only)); refine box_event ?hg (N := 14) ?hd (cs := #[.int .i64 0, .int .i64 0, .string ⟨#[]⟩, .string ⟨#[]⟩, .int .i64 0, .int .i64 0, .bool false]) (t := 34) ?hr ?_; (case hd => rfl); (case hg => rfl); (case hr => first | (go_simp; done) | (go_simp; rfl)); intro gb253 hg w89 hbox hb; have n0_ := Aside0.mk (Kd.R_below (by (with_reducible repeat (first | apply Kd.R_alloc | apply Kd.R_drewN | apply Kd.R_drew)); exact HO_5.out) hb); have n1_ := Aside0.mk (Kd.R_below (by (with_reducible repeat (first | apply Kd.R_alloc | apply Kd.R_drewN | apply Kd.R_drew)); exact HO_7.out) hb); have n2_ := Aside0.mk (Kd.R_below (Kd.R_elderB (by (with_reducible repeat (first | apply Kd.R_alloc | apply Kd.R_drewN | apply Kd.R_drew)); exact HO_111.out) gb253 (Nat.le_of_eq hg.symm)) hb); have n3_ := Aside0.mk (Kd.R_below (Kd.R_elderB (by (with_reducible repeat (first | apply Kd.R_alloc | apply Kd.R_drewN | apply Kd.R_drew)); exact HO_229001.out) gb253 (Nat.le_of_eq hg.symm)) hb); have n4_ := Aside0.mk (blk_below (g := gb228) (by (with_reducible repeat (first | apply blk_drewN | apply blk_drew | apply blk_alloc)); exact BK228.out) hb); have n5_ := Aside0.mk (below_step (by with_reducible repeat (first | exact HB.out | apply below_alloc | apply pw_below_drewN | apply below_drew1 | refine below_set ?_ GE228.out)) hb); have n6_ := Aside0.mk (hbox); have n7_ := Aside0.mk ((by rw [hg]; exact (below_size (by with_reducible repeat (first | exact HB.out | apply below_alloc | apply pw_below_drewN | apply below_drew1 | refine below_set ?_ GE228.out))) : w.heap.size ≤ gb253)); have n8_ := n7_; have n9_ := Aside0.mk ((by rw [hg]; exact Nat.ne_of_lt (blk_lt (g := gb228) (by (with_reducible repeat (first | apply blk_drewN | apply blk_drew | apply blk_alloc)); exact BK228.out)) : gb228 ≠ gb253)); have n10_ := Aside0.mk ((by rw [hg]; exact Nat.ne_of_gt (blk_lt (g := gb228) (by (with_reducible repeat (first | apply blk_drewN | apply blk_drew | apply blk_alloc)); exact BK228.out)) : gb253 ≠ gb228)); clear HO_5; clear HO_7; clear HO_111; clear HO_229001; clear BK228; clear HB; have HO_5 := n0_; have HO_7 := n1_; have HO_111 := n2_; have HO_229001 := n3_; have BK228 := n4_; have HB := n5_; have BK253 := n6_; have GW253 := n7_; have GE253 := n8_; have NB228_253 := n9_; have NB253_228 := n10_; clear n0_ n1_ n2_ n3_ n4_ n5_ n6_ n7_ n8_ n9_ n10_; clear hb hbox hg; have hnb90 := NB253_228.out; have hnc90 := NB228_253.out; have hcz91_0 : w89.cell? ⟨gb253, 0, none⟩ = some (.int .i64 0) := (blk_cell BK253.out 0).trans rfl; have hcz91_1 : w89.cell? ⟨gb253, 1, none⟩ = some (.int .i64 0) := (blk_cell BK253.out 1).trans rfl; have hcz91_2 : w89.cell? ⟨gb253, 2, none⟩ = some (.string ⟨#[]⟩) := (blk_cell BK253.out 2).trans rfl; have hcz91_3 : w89.cell? ⟨gb253, 3, none⟩ = some (.string ⟨#[]⟩) := (blk_cell BK253.out 3).trans rfl; have hcz91_4 : w89.cell? ⟨gb253, 4, none⟩ = some (.int .i64 0) := (blk_cell BK253.out 4).trans rfl; have hcz91_5 : w89.cell? ⟨gb253, 5, none⟩ = some (.int .i64 0) := (blk_cell BK253.out 5).trans rfl; have hcz91_6 : w89.cell? ⟨gb253, 6, none⟩ = some (.bool false) := (blk_cell BK253.out 6).trans rfl; have hfz91_0 := blk_frozen BK253.out 0; have hfz91_1 := blk_frozen BK253.out 1; have hfz91_2 := blk_frozen BK253.out 2; have hfz91_3 := blk_frozen BK253.out 3; have hfz91_4 := blk_frozen BK253.out 4; have hfz91_5 := blk_frozen BK253.out 5; have hfz91_6 := blk_frozen BK253.out 6))
                  have n0_ : Aside0 (Kd.R (Kd.int .i64) 3 (((((((w89.setCell ⟨gb253, 0, none⟩ (.int .i64 ((rd_T34 t225 x113_2).f0))).setCell ⟨gb253, 1, none⟩ (.int .i64 ((rd_T34 t225 x113_2).f1))).setCell ⟨gb253, 2, none⟩ (.string ((rd_T34 t225 x113_2).f2))).setCell ⟨gb253, 3, none⟩ (.string ((rd_T34 t225 x113_2).f3))).setCell ⟨gb253, 4, none⟩ (.int .i64 ((rd_T34 t225 x113_2).f4))).setCell ⟨gb253, 5, none⟩ (.int .i64 ((rd_T34 t225 x113_2).f5))).setCell ⟨gb253, 6, none⟩ (.bool ((rd_T34 t225 x113_2).f6))) w.heap.size (fun k_ => some k_ ≠ (v242 : Value).ownBlock) (.slice Ao25 t232.length co25) t232) := ⟨by (with_reducible repeat (first | apply Kd.R_alloc | apply Kd.R_drewN | apply Kd.R_drew)); exact Kd.R_mono (Kd.R_far (p := ⟨gb253, 6, none⟩) (Kd.R_far (p := ⟨gb253, 5, none⟩) (Kd.R_far (p := ⟨gb253, 4, none⟩) (Kd.R_far (p := ⟨gb253, 3, none⟩) (Kd.R_far (p := ⟨gb253, 2, none⟩) (Kd.R_far (p := ⟨gb253, 1, none⟩) (Kd.R_far (p := ⟨gb253, 0, none⟩) (Kd.R_types HO_5.out BK253.out (by decide)) (fun _ hk => hk.2) (.int .i64 ((rd_T34 t225 x113_2).f0))) (fun _ hk => hk.2) (.int .i64 ((rd_T34 t225 x113_2).f1))) (fun _ hk => hk.2) (.string ((rd_T34 t225 x113_2).f2))) (fun _ hk => hk.2) (.string ((rd_T34 t225 x113_2).f3))) (fun _ hk => hk.2) (.int .i64 ((rd_T34 t225 x113_2).f4))) (fun _ hk => hk.2) (.int .i64 ((rd_T34 t225 x113_2).f5))) (fun _ hk => hk.2) (.bool ((rd_T34 t225 x113_2).f6))) (fun _ hk => hk.1)⟩
                  have n1_ : Aside0 (Kd.R (Kd.int .i64) 3 (((((((w89.setCell ⟨gb253, 0, none⟩ (.int .i64 ((rd_T34 t225 x113_2).f0))).setCell ⟨gb253, 1, none⟩ (.int .i64 ((rd_T34 t225 x113_2).f1))).setCell ⟨gb253, 2, none⟩ (.string ((rd_T34 t225 x113_2).f2))).setCell ⟨gb253, 3, none⟩ (.string ((rd_T34 t225 x113_2).f3))).setCell ⟨gb253, 4, none⟩ (.int .i64 ((rd_T34 t225 x113_2).f4))).setCell ⟨gb253, 5, none⟩ (.int .i64 ((rd_T34 t225 x113_2).f5))).setCell ⟨gb253, 6, none⟩ (.bool ((rd_T34 t225 x113_2).f6))) w.heap.size (fun k_ => some k_ ≠ (.slice Ao25 t232.length co25 : Value).ownBlock) v242 x7_1) := ⟨by (with_reducible repeat (first | apply Kd.R_alloc | apply Kd.R_drewN | apply Kd.R_drew)); exact Kd.R_mono (Kd.R_far (p := ⟨gb253, 6, none⟩) (Kd.R_far (p := ⟨gb253, 5, none⟩) (Kd.R_far (p := ⟨gb253, 4, none⟩) (Kd.R_far (p := ⟨gb253, 3, none⟩) (Kd.R_far (p := ⟨gb253, 2, none⟩) (Kd.R_far (p := ⟨gb253, 1, none⟩) (Kd.R_far (p := ⟨gb253, 0, none⟩) (Kd.R_types HO_7.out BK253.out (by decide)) (fun _ hk => hk.2) (.int .i64 ((rd_T34 t225 x113_2).f0))) (fun _ hk => hk.2) (.int .i64 ((rd_T34 t225 x113_2).f1))) (fun _ hk => hk.2) (.string ((rd_T34 t225 x113_2).f2))) (fun _ hk => hk.2) (.string ((rd_T34 t225 x113_2).f3))) (fun _ hk => hk.2) (.int .i64 ((rd_T34 t225 x113_2).f4))) (fun _ hk => hk.2) (.int .i64 ((rd_T34 t225 x113_2).f5))) (fun _ hk => hk.2) (.bool ((rd_T34 t225 x113_2).f6))) (fun _ hk => hk.1)⟩
                  have n2_ : Aside0 (Kd.R k34 34 (((((((w89.setCell ⟨gb253, 0, none⟩ (.int .i64 ((rd_T34 t225 x113_2).f0))).setCell ⟨gb253, 1, none⟩ (.int .i64 ((rd_T34 t225 x113_2).f1))).setCell ⟨gb253, 2, none⟩ (.string ((rd_T34 t225 x113_2).f2))).setCell ⟨gb253, 3, none⟩ (.string ((rd_T34 t225 x113_2).f3))).setCell ⟨gb253, 4, none⟩ (.int .i64 ((rd_T34 t225 x113_2).f4))).setCell ⟨gb253, 5, none⟩ (.int .i64 ((rd_T34 t225 x113_2).f5))).setCell ⟨gb253, 6, none⟩ (.bool ((rd_T34 t225 x113_2).f6))) w.heap.size (fun k_ => k_ ≠ gb253) (.slice (some ad240) t225.length co17) t225) := ⟨by (with_reducible repeat (first | apply Kd.R_alloc | apply Kd.R_drewN | apply Kd.R_drew)); exact Kd.R_mono (Kd.R_far (p := ⟨gb253, 6, none⟩) (Kd.R_far (p := ⟨gb253, 5, none⟩) (Kd.R_far (p := ⟨gb253, 4, none⟩) (Kd.R_far (p := ⟨gb253, 3, none⟩) (Kd.R_far (p := ⟨gb253, 2, none⟩) (Kd.R_far (p := ⟨gb253, 1, none⟩) (Kd.R_far (p := ⟨gb253, 0, none⟩) (Kd.R_mono HO_111.out (fun k_ hk => (⟨hk, hk.2⟩ : _ ∧ k_ ≠ gb253))) (fun _ hk => hk.2) (.int .i64 ((rd_T34 t225 x113_2).f0))) (fun _ hk => hk.2) (.int .i64 ((rd_T34 t225 x113_2).f1))) (fun _ hk => hk.2) (.string ((rd_T34 t225 x113_2).f2))) (fun _ hk => hk.2) (.string ((rd_T34 t225 x113_2).f3))) (fun _ hk => hk.2) (.int .i64 ((rd_T34 t225 x113_2).f4))) (fun _ hk => hk.2) (.int .i64 ((rd_T34 t225 x113_2).f5))) (fun _ hk => hk.2) (.bool ((rd_T34 t225 x113_2).f6))) (fun _ hk => hk.1.2)⟩
                  have n3_ : Aside0 (Kd.R k34 34 (((((((w89.setCell ⟨gb253, 0, none⟩ (.int .i64 ((rd_T34 t225 x113_2).f0))).setCell ⟨gb253, 1, none⟩ (.int .i64 ((rd_T34 t225 x113_2).f1))).setCell ⟨gb253, 2, none⟩ (.string ((rd_T34 t225 x113_2).f2))).setCell ⟨gb253, 3, none⟩ (.string ((rd_T34 t225 x113_2).f3))).setCell ⟨gb253, 4, none⟩ (.int .i64 ((rd_T34 t225 x113_2).f4))).setCell ⟨gb253, 5, none⟩ (.int .i64 ((rd_T34 t225 x113_2).f5))).setCell ⟨gb253, 6, none⟩ (.bool ((rd_T34 t225 x113_2).f6))) w.heap.size (fun k_ => k_ ≠ gb253) (.slice (some ad240) t225.length co17) t225) := ⟨by (with_reducible repeat (first | apply Kd.R_alloc | apply Kd.R_drewN | apply Kd.R_drew)); exact Kd.R_mono (Kd.R_far (p := ⟨gb253, 6, none⟩) (Kd.R_far (p := ⟨gb253, 5, none⟩) (Kd.R_far (p := ⟨gb253, 4, none⟩) (Kd.R_far (p := ⟨gb253, 3, none⟩) (Kd.R_far (p := ⟨gb253, 2, none⟩) (Kd.R_far (p := ⟨gb253, 1, none⟩) (Kd.R_far (p := ⟨gb253, 0, none⟩) (Kd.R_mono HO_229001.out (fun k_ hk => (⟨hk, hk.2⟩ : _ ∧ k_ ≠ gb253))) (fun _ hk => hk.2) (.int .i64 ((rd_T34 t225 x113_2).f0))) (fun _ hk => hk.2) (.int .i64 ((rd_T34 t225 x113_2).f1))) (fun _ hk => hk.2) (.string ((rd_T34 t225 x113_2).f2))) (fun _ hk => hk.2) (.string ((rd_T34 t225 x113_2).f3))) (fun _ hk => hk.2) (.int .i64 ((rd_T34 t225 x113_2).f4))) (fun _ hk => hk.2) (.int .i64 ((rd_T34 t225 x113_2).f5))) (fun _ hk => hk.2) (.bool ((rd_T34 t225 x113_2).f6))) (fun _ hk => hk.1.2)⟩
                  have n4_ : Aside0 ((((((((w89.setCell ⟨gb253, 0, none⟩ (.int .i64 ((rd_T34 t225 x113_2).f0))).setCell ⟨gb253, 1, none⟩ (.int .i64 ((rd_T34 t225 x113_2).f1))).setCell ⟨gb253, 2, none⟩ (.string ((rd_T34 t225 x113_2).f2))).setCell ⟨gb253, 3, none⟩ (.string ((rd_T34 t225 x113_2).f3))).setCell ⟨gb253, 4, none⟩ (.int .i64 ((rd_T34 t225 x113_2).f4))).setCell ⟨gb253, 5, none⟩ (.int .i64 ((rd_T34 t225 x113_2).f5))).setCell ⟨gb253, 6, none⟩ (.bool ((rd_T34 t225 x113_2).f6))).heap[gb228]? = some (.cells #[.int .i64 t224, .slice (some ad240) t225.length co17] 25 (0, 0))) := ⟨by (with_reducible repeat (first | apply blk_drewN | apply blk_drew | apply blk_alloc)); refine blk_far ?_ NB228_253.out _; (with_reducible repeat (first | apply blk_drewN | apply blk_drew | apply blk_alloc)); refine blk_far ?_ NB228_253.out _; (with_reducible repeat (first | apply blk_drewN | apply blk_drew | apply blk_alloc)); refine blk_far ?_ NB228_253.out _; (with_reducible repeat (first | apply blk_drewN | apply blk_drew | apply blk_alloc)); refine blk_far ?_ NB228_253.out _; (with_reducible repeat (first | apply blk_drewN | apply blk_drew | apply blk_alloc)); refine blk_far ?_ NB228_253.out _; (with_reducible repeat (first | apply blk_drewN | apply blk_drew | apply blk_alloc)); refine blk_far ?_ NB228_253.out _; (with_reducible repeat (first | apply blk_drewN | apply blk_drew | apply blk_alloc)); refine blk_far ?_ NB228_253.out _; (with_reducible repeat (first | apply blk_drewN | apply blk_drew | apply blk_alloc)); exact BK228.out⟩
                  have n5_ : Aside0 ((((((((w89.setCell ⟨gb253, 0, none⟩ (.int .i64 ((rd_T34 t225 x113_2).f0))).setCell ⟨gb253, 1, none⟩ (.int .i64 ((rd_T34 t225 x113_2).f1))).setCell ⟨gb253, 2, none⟩ (.string ((rd_T34 t225 x113_2).f2))).setCell ⟨gb253, 3, none⟩ (.string ((rd_T34 t225 x113_2).f3))).setCell ⟨gb253, 4, none⟩ (.int .i64 ((rd_T34 t225 x113_2).f4))).setCell ⟨gb253, 5, none⟩ (.int .i64 ((rd_T34 t225 x113_2).f5))).setCell ⟨gb253, 6, none⟩ (.bool ((rd_T34 t225 x113_2).f6))).heap[gb253]? = some (.cells #[.int .i64 ((rd_T34 t225 x113_2).f0), .int .i64 ((rd_T34 t225 x113_2).f1), .string ((rd_T34 t225 x113_2).f2), .string ((rd_T34 t225 x113_2).f3), .int .i64 ((rd_T34 t225 x113_2).f4), .int .i64 ((rd_T34 t225 x113_2).f5), .bool ((rd_T34 t225 x113_2).f6)] 34 (0, 0))) := ⟨by (with_reducible repeat (first | apply blk_drewN | apply blk_drew | apply blk_alloc)); refine blk_put (cs := #[.int .i64 ((rd_T34 t225 x113_2).f0), .int .i64 ((rd_T34 t225 x113_2).f1), .string ((rd_T34 t225 x113_2).f2), .string ((rd_T34 t225 x113_2).f3), .int .i64 ((rd_T34 t225 x113_2).f4), .int .i64 ((rd_T34 t225 x113_2).f5), .bool false]) ?_ 6 _ rfl; (with_reducible repeat (first | apply blk_drewN | apply blk_drew | apply blk_alloc)); refine blk_put (cs := #[.int .i64 ((rd_T34 t225 x113_2).f0), .int .i64 ((rd_T34 t225 x113_2).f1), .string ((rd_T34 t225 x113_2).f2), .string ((rd_T34 t225 x113_2).f3), .int .i64 ((rd_T34 t225 x113_2).f4), .int .i64 0, .bool false]) ?_ 5 _ rfl; (with_reducible repeat (first | apply blk_drewN | apply blk_drew | apply blk_alloc)); refine blk_put (cs := #[.int .i64 ((rd_T34 t225 x113_2).f0), .int .i64 ((rd_T34 t225 x113_2).f1), .string ((rd_T34 t225 x113_2).f2), .string ((rd_T34 t225 x113_2).f3), .int .i64 0, .int .i64 0, .bool false]) ?_ 4 _ rfl; (with_reducible repeat (first | apply blk_drewN | apply blk_drew | apply blk_alloc)); refine blk_put (cs := #[.int .i64 ((rd_T34 t225 x113_2).f0), .int .i64 ((rd_T34 t225 x113_2).f1), .string ((rd_T34 t225 x113_2).f2), .string ⟨#[]⟩, .int .i64 0, .int .i64 0, .bool false]) ?_ 3 _ rfl; (with_reducible repeat (first | apply blk_drewN | apply blk_drew | apply blk_alloc)); refine blk_put (cs := #[.int .i64 ((rd_T34 t225 x113_2).f0), .int .i64 ((rd_T34 t225 x113_2).f1), .string ⟨#[]⟩, .string ⟨#[]⟩, .int .i64 0, .int .i64 0, .bool false]) ?_ 2 _ rfl; (with_reducible repeat (first | apply blk_drewN | apply blk_drew | apply blk_alloc)); refine blk_put (cs := #[.int .i64 ((rd_T34 t225 x113_2).f0), .int .i64 0, .string ⟨#[]⟩, .string ⟨#[]⟩, .int .i64 0, .int .i64 0, .bool false]) ?_ 1 _ rfl; (with_reducible repeat (first | apply blk_drewN | apply blk_drew | apply blk_alloc)); refine blk_put (cs := #[.int .i64 0, .int .i64 0, .string ⟨#[]⟩, .string ⟨#[]⟩, .int .i64 0, .int .i64 0, .bool false]) ?_ 0 _ rfl; (with_reducible repeat (first | apply blk_drewN | apply blk_drew | apply blk_alloc)); exact BK253.out⟩
                  have n6_ : Aside0 (Below w.heap.size w (((((((w89.setCell ⟨gb253, 0, none⟩ (.int .i64 ((rd_T34 t225 x113_2).f0))).setCell ⟨gb253, 1, none⟩ (.int .i64 ((rd_T34 t225 x113_2).f1))).setCell ⟨gb253, 2, none⟩ (.string ((rd_T34 t225 x113_2).f2))).setCell ⟨gb253, 3, none⟩ (.string ((rd_T34 t225 x113_2).f3))).setCell ⟨gb253, 4, none⟩ (.int .i64 ((rd_T34 t225 x113_2).f4))).setCell ⟨gb253, 5, none⟩ (.int .i64 ((rd_T34 t225 x113_2).f5))).setCell ⟨gb253, 6, none⟩ (.bool ((rd_T34 t225 x113_2).f6)))) := ⟨by with_reducible repeat (first | exact HB.out | apply below_alloc | apply pw_below_drewN | apply below_drew1 | refine below_set ?_ GE228.out | refine below_set ?_ GE253.out)⟩
                  (try clear HO_5)
                  (try clear HO_7)
                  (try clear HO_111)
                  (try clear HO_229001)
                  (try clear BK228)
                  (try clear BK253)
                  (try clear HB)
                  generalize (((((((w89.setCell ⟨gb253, 0, none⟩ (.int .i64 ((rd_T34 t225 x113_2).f0))).setCell ⟨gb253, 1, none⟩ (.int .i64 ((rd_T34 t225 x113_2).f1))).setCell ⟨gb253, 2, none⟩ (.string ((rd_T34 t225 x113_2).f2))).setCell ⟨gb253, 3, none⟩ (.string ((rd_T34 t225 x113_2).f3))).setCell ⟨gb253, 4, none⟩ (.int .i64 ((rd_T34 t225 x113_2).f4))).setCell ⟨gb253, 5, none⟩ (.int .i64 ((rd_T34 t225 x113_2).f5))).setCell ⟨gb253, 6, none⟩ (.bool ((rd_T34 t225 x113_2).f6))) = w92 at n0_ n1_ n2_ n3_ n4_ n5_ n6_ ⊢
                  have HO_5 := n0_
                  have HO_7 := n1_
                  have HO_111 := n2_
                  have HO_229001 := n3_
                  have BK228 := n4_
                  have BK253 := n5_
                  have HB := n6_
                  clear n0_ n1_ n2_ n3_ n4_ n5_ n6_
                  have n0_ := Aside0.mk (Kd.R_drew HO_5.out)
                  have n1_ := Aside0.mk (Kd.R_drew HO_7.out)
                  have n2_ := Aside0.mk (Kd.R_drew HO_111.out)
                  have n3_ := Aside0.mk (Kd.R_drew HO_229001.out)
                  have n4_ := Aside0.mk (blk_drew BK228.out)
                  have n5_ := Aside0.mk (blk_drew BK253.out)
                  have n6_ := Aside0.mk (below_drew1 HB.out)
                  clear HO_5
                  clear HO_7
                  clear HO_111
                  clear HO_229001
                  clear BK228
                  clear BK253
                  clear HB
                  have HO_5 := n0_
                  have HO_7 := n1_
                  have HO_111 := n2_
                  have HO_229001 := n3_
                  have BK228 := n4_
                  have BK253 := n5_
                  have HB := n6_
                  clear n0_ n1_ n2_ n3_ n4_ n5_ n6_
                  obtain ⟨Ao94, co94, eo94⟩ := Kd.R_slice HO_7.out
                  (first | subst eo94 | (injection eo94 with f1_ f2_ f3_; have f4_ := f1_.symm; have f5_ := f3_.symm; clear f1_ f2_ f3_; subst f4_; subst f5_))
                  have p254 : 0 ≤ (x113_2 : Int) := of_decide_eq_true (by assumption)
                  have q254 : x113_2 < (x7_1.length : Int) := of_decide_eq_true (by assumption)
                  obtain ⟨ad254, e254, hx254_0⟩ := Kd.at_int (Kd.R_reads' HO_7.out).2.2 x113_2 p254 q254
                  cases e254
                  replace p254 := eq_true p254
                  replace q254 := eq_true q254
                  have p255 : 0 ≤ (x113_2 : Int) := of_decide_eq_true (by assumption)
                  have q255 : x113_2 < (t232.length : Int) := of_decide_eq_true (by assumption)
                  obtain ⟨ad255, e255, hx255_0⟩ := Kd.at_int (Kd.R_reads' HO_5.out).2.2 x113_2 p255 q255
                  cases e255
                  replace p255 := eq_true p255
                  replace q255 := eq_true q255
                  refine start_ (n := 21) (S := fun w' => w'.cell? (ad254.add (x113_2).toNat) = some (.int .i64 (rd x7_1 x113_2)) ∧ w'.cell? (ad255.add (x113_2).toNat) = some (.int .i64 (rd t232 x113_2))) (ds := []) #[false, false, false, false, false, false, false, false, false, false, false, false, false, false, false, false, false, false, false, false, false] (by kernel_rfl) rfl rfl ⟨hx254_0, hx255_0⟩ (fun hHeld => ?_); refine with_tabW laws_FnCritical.tab30 laws_FnCritical.bits30 (fun HT_ HW_ => ?_)
                  generalize w92.drew = w93 at HO_5 HO_7 HO_111 HO_229001 BK228 BK253 HB hx254_0 hx255_0 hHeld ⊢
                  refine pure_ (i := 0) (N := some 118) (v := ?_) (a' := ?_) #[true, false, false, false, false, false, false, false, false, false, false, false, false, false, false, false, false, false, false, false, false] rfl rfl (any_of HT_.out (by kernel_rfl)) (fun _ _ _ h => h) (Or.inl ⟨by rfl, ?_⟩) ?_ ?_
                  rotate_left
                  ·intro w'
                   go_simp
                   with_reducible rfl
                  rotate_left
                  ·simp only [Act.put, List.setIfInBounds_toArray, List.set_cons_zero, List.set_cons_succ, i64_w, i32_w]
                   rfl
                  refine pure_ (i := 1) (N := some 119) (v := ?_) (a' := ?_) #[true, true, false, false, false, false, false, false, false, false, false, false, false, false, false, false, false, false, false, false, false] rfl rfl (any_of HT_.out (by kernel_rfl)) (fun _ _ _ h => h) (Or.inl ⟨by rfl, ?_⟩) ?_ ?_
                  rotate_left
                  ·intro w'
                   go_simp
                   with_reducible rfl
                  rotate_left
                  ·simp only [Act.put, List.setIfInBounds_toArray, List.set_cons_zero, List.set_cons_succ, i64_w, i32_w]
                   rfl
                  refine pure_ (i := 2) (N := some 120) (v := ?_) (a' := ?_) #[true, true, true, false, false, false, false, false, false, false, false, false, false, false, false, false, false, false, false, false, false] rfl rfl (any_of HT_.out (by kernel_rfl)) (fun _ _ _ h => h) (Or.inl ⟨by rfl, ?_⟩) ?_ ?_
                  rotate_left
                  ·intro w'
                   go_simp
                   with_reducible rfl
                  rotate_left
                  ·simp only [Act.put, List.setIfInBounds_toArray, List.set_cons_zero, List.set_cons_succ, i64_w, i32_w]
                   rfl
                  refine pure_ (i := 4) (N := some 122) (v := ?_) (a' := ?_) #[true, true, true, false, true, false, false, false, false, false, false, false, false, false, false, false, false, false, false, false, false] rfl rfl (any_of HT_.out (by kernel_rfl)) (fun _ _ _ h => h) (Or.inl ⟨by rfl, ?_⟩) ?_ ?_
                  rotate_left
                  ·intro w'
                   go_simp
                   with_reducible rfl
                  rotate_left
                  ·simp only [Act.put, List.setIfInBounds_toArray, List.set_cons_zero, List.set_cons_succ, i64_w, i32_w]
                   rfl
                  refine pure_ (i := 5) (N := some 123) (v := ?_) (a' := ?_) #[true, true, true, false, true, true, false, false, false, false, false, false, false, false, false, false, false, false, false, false, false] rfl rfl (any_of HT_.out (by kernel_rfl)) (fun _ _ _ h => h) (Or.inl ⟨by rfl, ?_⟩) ?_ ?_
                  rotate_left
                  ·intro w'
                   go_simp
                   with_reducible rfl
                  rotate_left
                  ·simp only [Act.put, List.setIfInBounds_toArray, List.set_cons_zero, List.set_cons_succ, i64_w, i32_w]
                   rfl
                  refine pure_ (i := 6) (N := some 124) (v := ?_) (a' := ?_) #[true, true, true, false, true, true, true, false, false, false, false, false, false, false, false, false, false, false, false, false, false] rfl rfl (any_of HT_.out (by kernel_rfl)) (fun _ _ _ h => h) (Or.inl ⟨by rfl, ?_⟩) ?_ ?_
                  rotate_left
                  ·intro w'
                   go_simp
                   with_reducible rfl
                  rotate_left
                  ·simp only [Act.put, List.setIfInBounds_toArray, List.set_cons_zero, List.set_cons_succ, i64_w, i32_w]
                   rfl
                  refine take_ (i := 3) (N := some 121) (v := ?_) (a' := ?_) #[true, true, true, true, true, true, true, false, false, false, false, false, false, false, false, false, false, false, false, false, false] rfl rfl (take_ofW HT_.out HW_.out (by kernel_rfl)) (fun _ _ _ h => h) (Or.inl ⟨by rfl, ?_⟩) hHeld ?_ ?_
                  rotate_left
                  ·rintro w' ⟨s0, s1⟩
                   go_simp
                   with_reducible rfl
                  rotate_left
                  ·simp only [Act.put, List.setIfInBounds_toArray, List.set_cons_zero, List.set_cons_succ, i64_w, i32_w]
                   rfl
                  refine take_ (i := 7) (N := some 125) (v := ?_) (a' := ?_) #[true, true, true, true, true, true, true, true, false, false, false, false, false, false, false, false, false, false, false, false, false] rfl rfl (take_ofW HT_.out HW_.out (by kernel_rfl)) (fun _ _ _ h => h) (Or.inl ⟨by rfl, ?_⟩) hHeld ?_ ?_
                  rotate_left
                  ·rintro w' ⟨s0, s1⟩
                   go_simp
                   with_reducible rfl
                  rotate_left
                  ·simp only [Act.put, List.setIfInBounds_toArray, List.set_cons_zero, List.set_cons_succ, i64_w, i32_w]
                   rfl
                  refine pure_ (i := 8) (N := some 126) (v := ?_) (a' := ?_) #[true, true, true, true, true, true, true, true, true, false, false, false, false, false, false, false, false, false, false, false, false] rfl rfl (any_of HT_.out (by kernel_rfl)) (fun _ _ _ h => h) (Or.inl ⟨by rfl, ?_⟩) ?_ ?_
                  rotate_left
                  ·intro w'
                   go_simp
                   with_reducible rfl
                  rotate_left
                  ·simp only [Act.put, List.setIfInBounds_toArray, List.set_cons_zero, List.set_cons_succ, i64_w, i32_w]
                   rfl
                  refine pure_ (i := 9) (N := some 127) (v := ?_) (a' := ?_) #[true, true, true, true, true, true, true, true, true, true, false, false, false, false, false, false, false, false, false, false, false] rfl rfl (any_of HT_.out (by kernel_rfl)) (fun _ _ _ h => h) (Or.inl ⟨by rfl, ?_⟩) ?_ ?_
                  rotate_left
                  ·intro w'
                   go_simp
                   with_reducible rfl
                  rotate_left
                  ·simp only [Act.put, List.setIfInBounds_toArray, List.set_cons_zero, List.set_cons_succ, i64_w, i32_w]
                   rfl
                  refine pure_ (i := 10) (N := some 128) (v := undef) (a' := ?_) #[true, true, true, true, true, true, true, true, true, true, true, false, false, false, false, false, false, false, false, false, false] rfl rfl (any_of HT_.out (by kernel_rfl)) (fun _ _ _ h => h) (Or.inr ⟨by rfl, rfl⟩) ?_ ?_
                  rotate_left
                  ·simp only [Act.put, List.setIfInBounds_toArray, List.set_cons_zero, List.set_cons_succ, i64_w, i32_w]
                   rfl
                  refine pure_ (i := 11) (N := some 129) (v := undef) (a' := ?_) #[true, true, true, true, true, true, true, true, true, true, true, true, false, false, false, false, false, false, false, false, false] rfl rfl (any_of HT_.out (by kernel_rfl)) (fun _ _ _ h => h) (Or.inr ⟨by rfl, rfl⟩) ?_ ?_
                  rotate_left
                  ·simp only [Act.put, List.setIfInBounds_toArray, List.set_cons_zero, List.set_cons_succ, i64_w, i32_w]
                   rfl
                  refine pure_ (i := 12) (N := some 130) (v := undef) (a' := ?_) #[true, true, true, true, true, true, true, true, true, true, true, true, true, false, false, false, false, false, false, false, false] rfl rfl (any_of HT_.out (by kernel_rfl)) (fun _ _ _ h => h) (Or.inr ⟨by rfl, rfl⟩) ?_ ?_
                  rotate_left
                  ·simp only [Act.put, List.setIfInBounds_toArray, List.set_cons_zero, List.set_cons_succ, i64_w, i32_w]
                   rfl
                  refine pure_ (i := 13) (N := some 131) (v := undef) (a' := ?_) #[true, true, true, true, true, true, true, true, true, true, true, true, true, true, false, false, false, false, false, false, false] rfl rfl (any_of HT_.out (by kernel_rfl)) (fun _ _ _ h => h) (Or.inr ⟨by rfl, rfl⟩) ?_ ?_
                  rotate_left
                  ·simp only [Act.put, List.setIfInBounds_toArray, List.set_cons_zero, List.set_cons_succ, i64_w, i32_w]
                   rfl
                  refine pure_ (i := 14) (N := some 132) (v := undef) (a' := ?_) #[true, true, true, true, true, true, true, true, true, true, true, true, true, true, true, false, false, false, false, false, false] rfl rfl (any_of HT_.out (by kernel_rfl)) (fun _ _ _ h => h) (Or.inr ⟨by rfl, rfl⟩) ?_ ?_
                  rotate_left
                  ·simp only [Act.put, List.setIfInBounds_toArray, List.set_cons_zero, List.set_cons_succ, i64_w, i32_w]
                   rfl
                  refine pure_ (i := 15) (N := some 133) (v := undef) (a' := ?_) #[true, true, true, true, true, true, true, true, true, true, true, true, true, true, true, true, false, false, false, false, false] rfl rfl (any_of HT_.out (by kernel_rfl)) (fun _ _ _ h => h) (Or.inr ⟨by rfl, rfl⟩) ?_ ?_
                  rotate_left
                  ·simp only [Act.put, List.setIfInBounds_toArray, List.set_cons_zero, List.set_cons_succ, i64_w, i32_w]
                   rfl
                  refine pure_ (i := 16) (N := some 134) (v := undef) (a' := ?_) #[true, true, true, true, true, true, true, true, true, true, true, true, true, true, true, true, true, false, false, false, false] rfl rfl (any_of HT_.out (by kernel_rfl)) (fun _ _ _ h => h) (Or.inr ⟨by rfl, rfl⟩) ?_ ?_
                  rotate_left
                  ·simp only [Act.put, List.setIfInBounds_toArray, List.set_cons_zero, List.set_cons_succ, i64_w, i32_w]
                   rfl
                  refine pure_ (i := 17) (N := some 135) (v := undef) (a' := ?_) #[true, true, true, true, true, true, true, true, true, true, true, true, true, true, true, true, true, true, false, false, false] rfl rfl (any_of HT_.out (by kernel_rfl)) (fun _ _ _ h => h) (Or.inr ⟨by rfl, rfl⟩) ?_ ?_
                  rotate_left
                  ·simp only [Act.put, List.setIfInBounds_toArray, List.set_cons_zero, List.set_cons_succ, i64_w, i32_w]
                   rfl
                  refine pure_ (i := 18) (N := some 136) (v := undef) (a' := ?_) #[true, true, true, true, true, true, true, true, true, true, true, true, true, true, true, true, true, true, true, false, false] rfl rfl (any_of HT_.out (by kernel_rfl)) (fun _ _ _ h => h) (Or.inr ⟨by rfl, rfl⟩) ?_ ?_
                  rotate_left
                  ·simp only [Act.put, List.setIfInBounds_toArray, List.set_cons_zero, List.set_cons_succ, i64_w, i32_w]
                   rfl
                  refine pure_ (i := 19) (N := some 137) (v := undef) (a' := ?_) #[true, true, true, true, true, true, true, true, true, true, true, true, true, true, true, true, true, true, true, true, false] rfl rfl (any_of HT_.out (by kernel_rfl)) (fun _ _ _ h => h) (Or.inr ⟨by rfl, rfl⟩) ?_ ?_
                  rotate_left
                  ·simp only [Act.put, List.setIfInBounds_toArray, List.set_cons_zero, List.set_cons_succ, i64_w, i32_w]
                   rfl
                  refine pure_ (i := 20) (N := some 138) (v := ?_) (a' := ?_) #[true, true, true, true, true, true, true, true, true, true, true, true, true, true, true, true, true, true, true, true, true] rfl rfl (any_of HT_.out (by kernel_rfl)) (fun _ _ _ h => h) (Or.inl ⟨by rfl, ?_⟩) ?_ ?_
                  rotate_left
                  ·intro w'
                   go_simp
                   with_reducible rfl
                  rotate_left
                  ·simp only [Act.put, List.setIfInBounds_toArray, List.set_cons_zero, List.set_cons_succ, i64_w, i32_w]
                   rfl
                  refine done_ (done_of HT_.out (by kernel_rfl)) ?_
                  try go_wp2
                  go_ret
                  exact ⟨by first | rfl | (simp [bne]; done) | (simp [*] <;> rfl), by with_reducible repeat (first | exact HB.out | apply below_alloc | apply pw_below_drewN | apply below_drew1 | refine below_set ?_ GE228.out | refine below_set ?_ GE253.out)⟩
                 ·rw [if_neg c88] at H
                  have c88b0 : decide ((rd t232 x113_2) < (rd x7_1 x113_2)) = false := decide_eq_false c88
                  clear c88
                  by_cases c95 : (rd t232 x113_2) > (wrap64 (((rd_T34 t225 x113_2).f5) - ((rd_T34 t225 x113_2).f4)))
                  ·rw [if_pos c95] at H
                   have c95b0 : decide ((wrap64 (((rd_T34 t225 x113_2).f5) - ((rd_T34 t225 x113_2).f4))) < (rd t232 x113_2)) = true := decide_eq_true c95
                   clear c95
                   obtain rfl := Option.some.inj H
                   have p252 : 0 ≤ (x113_2 : Int) := of_decide_eq_true (by assumption)
                   have q252 : x113_2 < (t225.length : Int) := of_decide_eq_true (by assumption)
                   obtain ⟨ad252, e252, hx252_0, hx252_1, hx252_2, hx252_3, hx252_4, hx252_5, hx252_6⟩ := at_T34 (Kd.R_reads' HO_111.out).2.2 x113_2 p252 q252
                   obtain rfl : ad240 = ad252 := (by injection e252)
                   replace p252 := eq_true p252
                   replace q252 := eq_true q252
                   try go_wp2_with (first | ((with_reducible refine gate_dst (N := 14) rfl ?_); (try (refine gate_guard (by rfl) ?_; dsimp only)); refine box_event ?hg (N := 14) ?hd (cs := #[.int .i64 0, .int .i64 0, .string ⟨#[]⟩, .string ⟨#[]⟩, .int .i64 0, .int .i64 0, .bool false]) (t := 34) ?hr ?_; (case hd => rfl); (case hg => rfl); (case hr => first | (go_simp; done) | (go_simp; rfl)); intro gb253 hg w96 hbox hb; have n0_ := Aside0.mk (Kd.R_below (by (with_reducible repeat (first | apply Kd.R_alloc | apply Kd.R_drewN | apply Kd.R_drew)); exact HO_5.out) hb); have n1_ := Aside0.mk (Kd.R_below (by (with_reducible repeat (first | apply Kd.R_alloc | apply Kd.R_drewN | apply Kd.R_drew)); exact HO_7.out) hb); have n2_ := Aside0.mk (Kd.R_below (Kd.R_elderB (by (with_reducible repeat (first | apply Kd.R_alloc | apply Kd.R_drewN | apply Kd.R_drew)); exact HO_111.out) gb253 (Nat.le_of_eq hg.symm)) hb); have n3_ := Aside0.mk (Kd.R_below (Kd.R_elderB (by (with_reducible repeat (first | apply Kd.R_alloc | apply Kd.R_drewN | apply Kd.R_drew)); exact HO_229001.out) gb253 (Nat.le_of_eq hg.symm)) hb); have n4_ := Aside0.mk (blk_below (g := gb228) (by (with_reducible repeat (first | apply blk_drewN | apply blk_drew | apply blk_alloc)); exact BK228.out) hb); have n5_ := Aside0.mk (below_step (by with_reducible repeat (first | exact HB.out | apply below_alloc | apply pw_below_drewN | apply below_drew1 | refine below_set ?_ GE228.out)) hb); have n6_ := Aside0.mk (hbox); have n7_ := Aside0.mk ((by rw [hg]; exact (below_size (by with_reducible repeat (first | exact HB.out | apply below_alloc | apply pw_below_drewN | apply below_drew1 | refine below_set ?_ GE228.out))) : w.heap.size ≤ gb253)); have n8_ := n7_; have n9_ := Aside0.mk ((by rw [hg]; exact Nat.ne_of_lt (blk_lt (g := gb228) (by (with_reducible repeat (first | apply blk_drewN | apply blk_drew | apply blk_alloc)); exact BK228.out)) : gb228 ≠ gb253)); have n10_ := Aside0.mk ((by rw [hg]; exact Nat.ne_of_gt (blk_lt (g := gb228) (by (with_reducible repeat (first | apply blk_drewN | apply blk_drew | apply blk_alloc)); exact BK228.out)) : gb253 ≠ gb228)); clear HO_5; clear HO_7; clear HO_111; clear HO_229001; clear BK228; clear HB; have HO_5 := n0_; have HO_7 := n1_; have HO_111 := n2_; have HO_229001 := n3_; have BK228 := n4_; have HB := n5_; have BK253 := n6_; have GW253 := n7_; have GE253 := n8_; have NB228_253 := n9_; have NB253_228 := n10_; clear n0_ n1_ n2_ n3_ n4_ n5_ n6_ n7_ n8_ n9_ n10_; clear hb hbox hg; have hnb97 := NB253_228.out; have hnc97 := NB228_253.out; have hcz98_0 : w96.cell? ⟨gb253, 0, none⟩ = some (.int .i64 0) := (blk_cell BK253.out 0).trans rfl; have hcz98_1 : w96.cell? ⟨gb253, 1, none⟩ = some (.int .i64 0) := (blk_cell BK253.out 1).trans rfl; have hcz98_2 : w96.cell? ⟨gb253, 2, none⟩ = some (.string ⟨#[]⟩) := (blk_cell BK253.out 2).trans rfl; have hcz98_3 : w96.cell? ⟨gb253, 3, none⟩ = some (.string ⟨#[]⟩) := (blk_cell BK253.out 3).trans rfl; have hcz98_4 : w96.cell? ⟨gb253, 4, none⟩ = some (.int .i64 0) := (blk_cell BK253.out 4).trans rfl; have hcz98_5 : w96.cell? ⟨gb253, 5, none⟩ = some (.int .i64 0) := (blk_cell BK253.out 5).trans rfl; have hcz98_6 : w96.cell? ⟨gb253, 6, none⟩ = some (.bool false) := (blk_cell BK253.out 6).trans rfl; have hfz98_0 := blk_frozen BK253.out 0; have hfz98_1 := blk_frozen BK253.out 1; have hfz98_2 := blk_frozen BK253.out 2; have hfz98_3 := blk_frozen BK253.out 3; have hfz98_4 := blk_frozen BK253.out 4; have hfz98_5 := blk_frozen BK253.out 5; have hfz98_6 := blk_frozen BK253.out 6))
                   have n0_ : Aside0 (Kd.R (Kd.int .i64) 3 (((((((w96.setCell ⟨gb253, 0, none⟩ (.int .i64 ((rd_T34 t225 x113_2).f0))).setCell ⟨gb253, 1, none⟩ (.int .i64 ((rd_T34 t225 x113_2).f1))).setCell ⟨gb253, 2, none⟩ (.string ((rd_T34 t225 x113_2).f2))).setCell ⟨gb253, 3, none⟩ (.string ((rd_T34 t225 x113_2).f3))).setCell ⟨gb253, 4, none⟩ (.int .i64 ((rd_T34 t225 x113_2).f4))).setCell ⟨gb253, 5, none⟩ (.int .i64 ((rd_T34 t225 x113_2).f5))).setCell ⟨gb253, 6, none⟩ (.bool ((rd_T34 t225 x113_2).f6))) w.heap.size (fun k_ => some k_ ≠ (v242 : Value).ownBlock) (.slice Ao25 t232.length co25) t232) := ⟨by (with_reducible repeat (first | apply Kd.R_alloc | apply Kd.R_drewN | apply Kd.R_drew)); exact Kd.R_mono (Kd.R_far (p := ⟨gb253, 6, none⟩) (Kd.R_far (p := ⟨gb253, 5, none⟩) (Kd.R_far (p := ⟨gb253, 4, none⟩) (Kd.R_far (p := ⟨gb253, 3, none⟩) (Kd.R_far (p := ⟨gb253, 2, none⟩) (Kd.R_far (p := ⟨gb253, 1, none⟩) (Kd.R_far (p := ⟨gb253, 0, none⟩) (Kd.R_types HO_5.out BK253.out (by decide)) (fun _ hk => hk.2) (.int .i64 ((rd_T34 t225 x113_2).f0))) (fun _ hk => hk.2) (.int .i64 ((rd_T34 t225 x113_2).f1))) (fun _ hk => hk.2) (.string ((rd_T34 t225 x113_2).f2))) (fun _ hk => hk.2) (.string ((rd_T34 t225 x113_2).f3))) (fun _ hk => hk.2) (.int .i64 ((rd_T34 t225 x113_2).f4))) (fun _ hk => hk.2) (.int .i64 ((rd_T34 t225 x113_2).f5))) (fun _ hk => hk.2) (.bool ((rd_T34 t225 x113_2).f6))) (fun _ hk => hk.1)⟩
                   have n1_ : Aside0 (Kd.R (Kd.int .i64) 3 (((((((w96.setCell ⟨gb253, 0, none⟩ (.int .i64 ((rd_T34 t225 x113_2).f0))).setCell ⟨gb253, 1, none⟩ (.int .i64 ((rd_T34 t225 x113_2).f1))).setCell ⟨gb253, 2, none⟩ (.string ((rd_T34 t225 x113_2).f2))).setCell ⟨gb253, 3, none⟩ (.string ((rd_T34 t225 x113_2).f3))).setCell ⟨gb253, 4, none⟩ (.int .i64 ((rd_T34 t225 x113_2).f4))).setCell ⟨gb253, 5, none⟩ (.int .i64 ((rd_T34 t225 x113_2).f5))).setCell ⟨gb253, 6, none⟩ (.bool ((rd_T34 t225 x113_2).f6))) w.heap.size (fun k_ => some k_ ≠ (.slice Ao25 t232.length co25 : Value).ownBlock) v242 x7_1) := ⟨by (with_reducible repeat (first | apply Kd.R_alloc | apply Kd.R_drewN | apply Kd.R_drew)); exact Kd.R_mono (Kd.R_far (p := ⟨gb253, 6, none⟩) (Kd.R_far (p := ⟨gb253, 5, none⟩) (Kd.R_far (p := ⟨gb253, 4, none⟩) (Kd.R_far (p := ⟨gb253, 3, none⟩) (Kd.R_far (p := ⟨gb253, 2, none⟩) (Kd.R_far (p := ⟨gb253, 1, none⟩) (Kd.R_far (p := ⟨gb253, 0, none⟩) (Kd.R_types HO_7.out BK253.out (by decide)) (fun _ hk => hk.2) (.int .i64 ((rd_T34 t225 x113_2).f0))) (fun _ hk => hk.2) (.int .i64 ((rd_T34 t225 x113_2).f1))) (fun _ hk => hk.2) (.string ((rd_T34 t225 x113_2).f2))) (fun _ hk => hk.2) (.string ((rd_T34 t225 x113_2).f3))) (fun _ hk => hk.2) (.int .i64 ((rd_T34 t225 x113_2).f4))) (fun _ hk => hk.2) (.int .i64 ((rd_T34 t225 x113_2).f5))) (fun _ hk => hk.2) (.bool ((rd_T34 t225 x113_2).f6))) (fun _ hk => hk.1)⟩
                   have n2_ : Aside0 (Kd.R k34 34 (((((((w96.setCell ⟨gb253, 0, none⟩ (.int .i64 ((rd_T34 t225 x113_2).f0))).setCell ⟨gb253, 1, none⟩ (.int .i64 ((rd_T34 t225 x113_2).f1))).setCell ⟨gb253, 2, none⟩ (.string ((rd_T34 t225 x113_2).f2))).setCell ⟨gb253, 3, none⟩ (.string ((rd_T34 t225 x113_2).f3))).setCell ⟨gb253, 4, none⟩ (.int .i64 ((rd_T34 t225 x113_2).f4))).setCell ⟨gb253, 5, none⟩ (.int .i64 ((rd_T34 t225 x113_2).f5))).setCell ⟨gb253, 6, none⟩ (.bool ((rd_T34 t225 x113_2).f6))) w.heap.size (fun k_ => k_ ≠ gb253) (.slice (some ad240) t225.length co17) t225) := ⟨by (with_reducible repeat (first | apply Kd.R_alloc | apply Kd.R_drewN | apply Kd.R_drew)); exact Kd.R_mono (Kd.R_far (p := ⟨gb253, 6, none⟩) (Kd.R_far (p := ⟨gb253, 5, none⟩) (Kd.R_far (p := ⟨gb253, 4, none⟩) (Kd.R_far (p := ⟨gb253, 3, none⟩) (Kd.R_far (p := ⟨gb253, 2, none⟩) (Kd.R_far (p := ⟨gb253, 1, none⟩) (Kd.R_far (p := ⟨gb253, 0, none⟩) (Kd.R_mono HO_111.out (fun k_ hk => (⟨hk, hk.2⟩ : _ ∧ k_ ≠ gb253))) (fun _ hk => hk.2) (.int .i64 ((rd_T34 t225 x113_2).f0))) (fun _ hk => hk.2) (.int .i64 ((rd_T34 t225 x113_2).f1))) (fun _ hk => hk.2) (.string ((rd_T34 t225 x113_2).f2))) (fun _ hk => hk.2) (.string ((rd_T34 t225 x113_2).f3))) (fun _ hk => hk.2) (.int .i64 ((rd_T34 t225 x113_2).f4))) (fun _ hk => hk.2) (.int .i64 ((rd_T34 t225 x113_2).f5))) (fun _ hk => hk.2) (.bool ((rd_T34 t225 x113_2).f6))) (fun _ hk => hk.1.2)⟩
                   have n3_ : Aside0 (Kd.R k34 34 (((((((w96.setCell ⟨gb253, 0, none⟩ (.int .i64 ((rd_T34 t225 x113_2).f0))).setCell ⟨gb253, 1, none⟩ (.int .i64 ((rd_T34 t225 x113_2).f1))).setCell ⟨gb253, 2, none⟩ (.string ((rd_T34 t225 x113_2).f2))).setCell ⟨gb253, 3, none⟩ (.string ((rd_T34 t225 x113_2).f3))).setCell ⟨gb253, 4, none⟩ (.int .i64 ((rd_T34 t225 x113_2).f4))).setCell ⟨gb253, 5, none⟩ (.int .i64 ((rd_T34 t225 x113_2).f5))).setCell ⟨gb253, 6, none⟩ (.bool ((rd_T34 t225 x113_2).f6))) w.heap.size (fun k_ => k_ ≠ gb253) (.slice (some ad240) t225.length co17) t225) := ⟨by (with_reducible repeat (first | apply Kd.R_alloc | apply Kd.R_drewN | apply Kd.R_drew)); exact Kd.R_mono (Kd.R_far (p := ⟨gb253, 6, none⟩) (Kd.R_far (p := ⟨gb253, 5, none⟩) (Kd.R_far (p := ⟨gb253, 4, none⟩) (Kd.R_far (p := ⟨gb253, 3, none⟩) (Kd.R_far (p := ⟨gb253, 2, none⟩) (Kd.R_far (p := ⟨gb253, 1, none⟩) (Kd.R_far (p := ⟨gb253, 0, none⟩) (Kd.R_mono HO_229001.out (fun k_ hk => (⟨hk, hk.2⟩ : _ ∧ k_ ≠ gb253))) (fun _ hk => hk.2) (.int .i64 ((rd_T34 t225 x113_2).f0))) (fun _ hk => hk.2) (.int .i64 ((rd_T34 t225 x113_2).f1))) (fun _ hk => hk.2) (.string ((rd_T34 t225 x113_2).f2))) (fun _ hk => hk.2) (.string ((rd_T34 t225 x113_2).f3))) (fun _ hk => hk.2) (.int .i64 ((rd_T34 t225 x113_2).f4))) (fun _ hk => hk.2) (.int .i64 ((rd_T34 t225 x113_2).f5))) (fun _ hk => hk.2) (.bool ((rd_T34 t225 x113_2).f6))) (fun _ hk => hk.1.2)⟩
                   have n4_ : Aside0 ((((((((w96.setCell ⟨gb253, 0, none⟩ (.int .i64 ((rd_T34 t225 x113_2).f0))).setCell ⟨gb253, 1, none⟩ (.int .i64 ((rd_T34 t225 x113_2).f1))).setCell ⟨gb253, 2, none⟩ (.string ((rd_T34 t225 x113_2).f2))).setCell ⟨gb253, 3, none⟩ (.string ((rd_T34 t225 x113_2).f3))).setCell ⟨gb253, 4, none⟩ (.int .i64 ((rd_T34 t225 x113_2).f4))).setCell ⟨gb253, 5, none⟩ (.int .i64 ((rd_T34 t225 x113_2).f5))).setCell ⟨gb253, 6, none⟩ (.bool ((rd_T34 t225 x113_2).f6))).heap[gb228]? = some (.cells #[.int .i64 t224, .slice (some ad240) t225.length co17] 25 (0, 0))) := ⟨by (with_reducible repeat (first | apply blk_drewN | apply blk_drew | apply blk_alloc)); refine blk_far ?_ NB228_253.out _; (with_reducible repeat (first | apply blk_drewN | apply blk_drew | apply blk_alloc)); refine blk_far ?_ NB228_253.out _; (with_reducible repeat (first | apply blk_drewN | apply blk_drew | apply blk_alloc)); refine blk_far ?_ NB228_253.out _; (with_reducible repeat (first | apply blk_drewN | apply blk_drew | apply blk_alloc)); refine blk_far ?_ NB228_253.out _; (with_reducible repeat (first | apply blk_drewN | apply blk_drew | apply blk_alloc)); refine blk_far ?_ NB228_253.out _; (with_reducible repeat (first | apply blk_drewN | apply blk_drew | apply blk_alloc)); refine blk_far ?_ NB228_253.out _; (with_reducible repeat (first | apply blk_drewN | apply blk_drew | apply blk_alloc)); refine blk_far ?_ NB228_253.out _; (with_reducible repeat (first | apply blk_drewN | apply blk_drew | apply blk_alloc)); exact BK228.out⟩
                   have n5_ : Aside0 ((((((((w96.setCell ⟨gb253, 0, none⟩ (.int .i64 ((rd_T34 t225 x113_2).f0))).setCell ⟨gb253, 1, none⟩ (.int .i64 ((rd_T34 t225 x113_2).f1))).setCell ⟨gb253, 2, none⟩ (.string ((rd_T34 t225 x113_2).f2))).setCell ⟨gb253, 3, none⟩ (.string ((rd_T34 t225 x113_2).f3))).setCell ⟨gb253, 4, none⟩ (.int .i64 ((rd_T34 t225 x113_2).f4))).setCell ⟨gb253, 5, none⟩ (.int .i64 ((rd_T34 t225 x113_2).f5))).setCell ⟨gb253, 6, none⟩ (.bool ((rd_T34 t225 x113_2).f6))).heap[gb253]? = some (.cells #[.int .i64 ((rd_T34 t225 x113_2).f0), .int .i64 ((rd_T34 t225 x113_2).f1), .string ((rd_T34 t225 x113_2).f2), .string ((rd_T34 t225 x113_2).f3), .int .i64 ((rd_T34 t225 x113_2).f4), .int .i64 ((rd_T34 t225 x113_2).f5), .bool ((rd_T34 t225 x113_2).f6)] 34 (0, 0))) := ⟨by (with_reducible repeat (first | apply blk_drewN | apply blk_drew | apply blk_alloc)); refine blk_put (cs := #[.int .i64 ((rd_T34 t225 x113_2).f0), .int .i64 ((rd_T34 t225 x113_2).f1), .string ((rd_T34 t225 x113_2).f2), .string ((rd_T34 t225 x113_2).f3), .int .i64 ((rd_T34 t225 x113_2).f4), .int .i64 ((rd_T34 t225 x113_2).f5), .bool false]) ?_ 6 _ rfl; (with_reducible repeat (first | apply blk_drewN | apply blk_drew | apply blk_alloc)); refine blk_put (cs := #[.int .i64 ((rd_T34 t225 x113_2).f0), .int .i64 ((rd_T34 t225 x113_2).f1), .string ((rd_T34 t225 x113_2).f2), .string ((rd_T34 t225 x113_2).f3), .int .i64 ((rd_T34 t225 x113_2).f4), .int .i64 0, .bool false]) ?_ 5 _ rfl; (with_reducible repeat (first | apply blk_drewN | apply blk_drew | apply blk_alloc)); refine blk_put (cs := #[.int .i64 ((rd_T34 t225 x113_2).f0), .int .i64 ((rd_T34 t225 x113_2).f1), .string ((rd_T34 t225 x113_2).f2), .string ((rd_T34 t225 x113_2).f3), .int .i64 0, .int .i64 0, .bool false]) ?_ 4 _ rfl; (with_reducible repeat (first | apply blk_drewN | apply blk_drew | apply blk_alloc)); refine blk_put (cs := #[.int .i64 ((rd_T34 t225 x113_2).f0), .int .i64 ((rd_T34 t225 x113_2).f1), .string ((rd_T34 t225 x113_2).f2), .string ⟨#[]⟩, .int .i64 0, .int .i64 0, .bool false]) ?_ 3 _ rfl; (with_reducible repeat (first | apply blk_drewN | apply blk_drew | apply blk_alloc)); refine blk_put (cs := #[.int .i64 ((rd_T34 t225 x113_2).f0), .int .i64 ((rd_T34 t225 x113_2).f1), .string ⟨#[]⟩, .string ⟨#[]⟩, .int .i64 0, .int .i64 0, .bool false]) ?_ 2 _ rfl; (with_reducible repeat (first | apply blk_drewN | apply blk_drew | apply blk_alloc)); refine blk_put (cs := #[.int .i64 ((rd_T34 t225 x113_2).f0), .int .i64 0, .string ⟨#[]⟩, .string ⟨#[]⟩, .int .i64 0, .int .i64 0, .bool false]) ?_ 1 _ rfl; (with_reducible repeat (first | apply blk_drewN | apply blk_drew | apply blk_alloc)); refine blk_put (cs := #[.int .i64 0, .int .i64 0, .string ⟨#[]⟩, .string ⟨#[]⟩, .int .i64 0, .int .i64 0, .bool false]) ?_ 0 _ rfl; (with_reducible repeat (first | apply blk_drewN | apply blk_drew | apply blk_alloc)); exact BK253.out⟩
                   have n6_ : Aside0 (Below w.heap.size w (((((((w96.setCell ⟨gb253, 0, none⟩ (.int .i64 ((rd_T34 t225 x113_2).f0))).setCell ⟨gb253, 1, none⟩ (.int .i64 ((rd_T34 t225 x113_2).f1))).setCell ⟨gb253, 2, none⟩ (.string ((rd_T34 t225 x113_2).f2))).setCell ⟨gb253, 3, none⟩ (.string ((rd_T34 t225 x113_2).f3))).setCell ⟨gb253, 4, none⟩ (.int .i64 ((rd_T34 t225 x113_2).f4))).setCell ⟨gb253, 5, none⟩ (.int .i64 ((rd_T34 t225 x113_2).f5))).setCell ⟨gb253, 6, none⟩ (.bool ((rd_T34 t225 x113_2).f6)))) := ⟨by with_reducible repeat (first | exact HB.out | apply below_alloc | apply pw_below_drewN | apply below_drew1 | refine below_set ?_ GE228.out | refine below_set ?_ GE253.out)⟩
                   (try clear HO_5)
                   (try clear HO_7)
                   (try clear HO_111)
                   (try clear HO_229001)
                   (try clear BK228)
                   (try clear BK253)
                   (try clear HB)
                   generalize (((((((w96.setCell ⟨gb253, 0, none⟩ (.int .i64 ((rd_T34 t225 x113_2).f0))).setCell ⟨gb253, 1, none⟩ (.int .i64 ((rd_T34 t225 x113_2).f1))).setCell ⟨gb253, 2, none⟩ (.string ((rd_T34 t225 x113_2).f2))).setCell ⟨gb253, 3, none⟩ (.string ((rd_T34 t225 x113_2).f3))).setCell ⟨gb253, 4, none⟩ (.int .i64 ((rd_T34 t225 x113_2).f4))).setCell ⟨gb253, 5, none⟩ (.int .i64 ((rd_T34 t225 x113_2).f5))).setCell ⟨gb253, 6, none⟩ (.bool ((rd_T34 t225 x113_2).f6))) = w99 at n0_ n1_ n2_ n3_ n4_ n5_ n6_ ⊢
                   have HO_5 := n0_
                   have HO_7 := n1_
                   have HO_111 := n2_
                   have HO_229001 := n3_
                   have BK228 := n4_
                   have BK253 := n5_
                   have HB := n6_
                   clear n0_ n1_ n2_ n3_ n4_ n5_ n6_
                   have n0_ := Aside0.mk (Kd.R_drew HO_5.out)
                   have n1_ := Aside0.mk (Kd.R_drew HO_7.out)
                   have n2_ := Aside0.mk (Kd.R_drew HO_111.out)
                   have n3_ := Aside0.mk (Kd.R_drew HO_229001.out)
                   have n4_ := Aside0.mk (blk_drew BK228.out)
                   have n5_ := Aside0.mk (blk_drew BK253.out)
                   have n6_ := Aside0.mk (below_drew1 HB.out)
                   clear HO_5
                   clear HO_7
                   clear HO_111
                   clear HO_229001
                   clear BK228
                   clear BK253
                   clear HB
                   have HO_5 := n0_
                   have HO_7 := n1_
                   have HO_111 := n2_
                   have HO_229001 := n3_
                   have BK228 := n4_
                   have BK253 := n5_
                   have HB := n6_
                   clear n0_ n1_ n2_ n3_ n4_ n5_ n6_
                   obtain ⟨Ao101, co101, eo101⟩ := Kd.R_slice HO_7.out
                   (first | subst eo101 | (injection eo101 with f1_ f2_ f3_; have f4_ := f1_.symm; have f5_ := f3_.symm; clear f1_ f2_ f3_; subst f4_; subst f5_))
                   have p254 : 0 ≤ (x113_2 : Int) := of_decide_eq_true (by assumption)
                   have q254 : x113_2 < (x7_1.length : Int) := of_decide_eq_true (by assumption)
                   obtain ⟨ad254, e254, hx254_0⟩ := Kd.at_int (Kd.R_reads' HO_7.out).2.2 x113_2 p254 q254
                   cases e254
                   replace p254 := eq_true p254
                   replace q254 := eq_true q254
                   have p255 : 0 ≤ (x113_2 : Int) := of_decide_eq_true (by assumption)
                   have q255 : x113_2 < (t232.length : Int) := of_decide_eq_true (by assumption)
                   obtain ⟨ad255, e255, hx255_0⟩ := Kd.at_int (Kd.R_reads' HO_5.out).2.2 x113_2 p255 q255
                   cases e255
                   replace p255 := eq_true p255
                   replace q255 := eq_true q255
                   have p256 : 0 ≤ (x113_2 : Int) := of_decide_eq_true (by assumption)
                   have q256 : x113_2 < (t232.length : Int) := of_decide_eq_true (by assumption)
                   obtain ⟨ad256, e256, hx256_0⟩ := Kd.at_int (Kd.R_reads' HO_5.out).2.2 x113_2 p256 q256
                   obtain rfl : ad255 = ad256 := (by injection e256)
                   replace p256 := eq_true p256
                   replace q256 := eq_true q256
                   refine start_ (n := 21) (S := fun w' => w'.cell? ⟨gb253, 0, none⟩ = some (.int .i64 ((rd_T34 t225 x113_2).f0)) ∧ w'.cell? ⟨gb253, 1, none⟩ = some (.int .i64 ((rd_T34 t225 x113_2).f1)) ∧ w'.cell? ⟨gb253, 2, none⟩ = some (.string ((rd_T34 t225 x113_2).f2)) ∧ w'.cell? ⟨gb253, 3, none⟩ = some (.string ((rd_T34 t225 x113_2).f3)) ∧ w'.cell? ⟨gb253, 4, none⟩ = some (.int .i64 ((rd_T34 t225 x113_2).f4)) ∧ w'.cell? ⟨gb253, 5, none⟩ = some (.int .i64 ((rd_T34 t225 x113_2).f5)) ∧ w'.cell? ⟨gb253, 6, none⟩ = some (.bool ((rd_T34 t225 x113_2).f6)) ∧ w'.cell? (ad254.add (x113_2).toNat) = some (.int .i64 (rd x7_1 x113_2)) ∧ w'.cell? (ad255.add (x113_2).toNat) = some (.int .i64 (rd t232 x113_2)) ∧ w'.cell? (ad255.add (x113_2).toNat) = some (.int .i64 (rd t232 x113_2))) (ds := []) #[false, false, false, false, false, false, false, false, false, false, false, false, false, false, false, false, false, false, false, false, false] (by kernel_rfl) rfl rfl ⟨(blk_cell BK253.out 0).trans rfl, (blk_cell BK253.out 1).trans rfl, (blk_cell BK253.out 2).trans rfl, (blk_cell BK253.out 3).trans rfl, (blk_cell BK253.out 4).trans rfl, (blk_cell BK253.out 5).trans rfl, (blk_cell BK253.out 6).trans rfl, hx254_0, hx255_0, hx256_0⟩ (fun hHeld => ?_); refine with_tabW laws_FnCritical.tab30 laws_FnCritical.bits30 (fun HT_ HW_ => ?_)
                   generalize w99.drew = w100 at HO_5 HO_7 HO_111 HO_229001 BK228 BK253 HB hx254_0 hx255_0 hx256_0 hHeld ⊢
                   refine pure_ (i := 0) (N := some 118) (v := ?_) (a' := ?_) #[true, false, false, false, false, false, false, false, false, false, false, false, false, false, false, false, false, false, false, false, false] rfl rfl (any_of HT_.out (by kernel_rfl)) (fun _ _ _ h => h) (Or.inl ⟨by rfl, ?_⟩) ?_ ?_
                   rotate_left
                   ·intro w'
                    go_simp
                    with_reducible rfl
                   rotate_left
                   ·simp only [Act.put, List.setIfInBounds_toArray, List.set_cons_zero, List.set_cons_succ, i64_w, i32_w]
                    rfl
                   refine pure_ (i := 1) (N := some 119) (v := ?_) (a' := ?_) #[true, true, false, false, false, false, false, false, false, false, false, false, false, false, false, false, false, false, false, false, false] rfl rfl (any_of HT_.out (by kernel_rfl)) (fun _ _ _ h => h) (Or.inl ⟨by rfl, ?_⟩) ?_ ?_
                   rotate_left
                   ·intro w'
                    go_simp
                    with_reducible rfl
                   rotate_left
                   ·simp only [Act.put, List.setIfInBounds_toArray, List.set_cons_zero, List.set_cons_succ, i64_w, i32_w]
                    rfl
                   refine pure_ (i := 2) (N := some 120) (v := ?_) (a' := ?_) #[true, true, true, false, false, false, false, false, false, false, false, false, false, false, false, false, false, false, false, false, false] rfl rfl (any_of HT_.out (by kernel_rfl)) (fun _ _ _ h => h) (Or.inl ⟨by rfl, ?_⟩) ?_ ?_
                   rotate_left
                   ·intro w'
                    go_simp
                    with_reducible rfl
                   rotate_left
                   ·simp only [Act.put, List.setIfInBounds_toArray, List.set_cons_zero, List.set_cons_succ, i64_w, i32_w]
                    rfl
                   refine pure_ (i := 4) (N := some 122) (v := ?_) (a' := ?_) #[true, true, true, false, true, false, false, false, false, false, false, false, false, false, false, false, false, false, false, false, false] rfl rfl (any_of HT_.out (by kernel_rfl)) (fun _ _ _ h => h) (Or.inl ⟨by rfl, ?_⟩) ?_ ?_
                   rotate_left
                   ·intro w'
                    go_simp
                    with_reducible rfl
                   rotate_left
                   ·simp only [Act.put, List.setIfInBounds_toArray, List.set_cons_zero, List.set_cons_succ, i64_w, i32_w]
                    rfl
                   refine pure_ (i := 5) (N := some 123) (v := ?_) (a' := ?_) #[true, true, true, false, true, true, false, false, false, false, false, false, false, false, false, false, false, false, false, false, false] rfl rfl (any_of HT_.out (by kernel_rfl)) (fun _ _ _ h => h) (Or.inl ⟨by rfl, ?_⟩) ?_ ?_
                   rotate_left
                   ·intro w'
                    go_simp
                    with_reducible rfl
                   rotate_left
                   ·simp only [Act.put, List.setIfInBounds_toArray, List.set_cons_zero, List.set_cons_succ, i64_w, i32_w]
                    rfl
                   refine pure_ (i := 6) (N := some 124) (v := ?_) (a' := ?_) #[true, true, true, false, true, true, true, false, false, false, false, false, false, false, false, false, false, false, false, false, false] rfl rfl (any_of HT_.out (by kernel_rfl)) (fun _ _ _ h => h) (Or.inl ⟨by rfl, ?_⟩) ?_ ?_
                   rotate_left
                   ·intro w'
                    go_simp
                    with_reducible rfl
                   rotate_left
                   ·simp only [Act.put, List.setIfInBounds_toArray, List.set_cons_zero, List.set_cons_succ, i64_w, i32_w]
                    rfl
                   refine take_ (i := 3) (N := some 121) (v := ?_) (a' := ?_) #[true, true, true, true, true, true, true, false, false, false, false, false, false, false, false, false, false, false, false, false, false] rfl rfl (take_ofW HT_.out HW_.out (by kernel_rfl)) (fun _ _ _ h => h) (Or.inl ⟨by rfl, ?_⟩) hHeld ?_ ?_
                   rotate_left
                   ·rintro w' ⟨s0, s1, s2, s3, s4, s5, s6, s7, s8, s9⟩
                    go_simp
                    with_reducible rfl
                   rotate_left
                   ·simp only [Act.put, List.setIfInBounds_toArray, List.set_cons_zero, List.set_cons_succ, i64_w, i32_w]
                    rfl
                   refine take_ (i := 7) (N := some 125) (v := ?_) (a' := ?_) #[true, true, true, true, true, true, true, true, false, false, false, false, false, false, false, false, false, false, false, false, false] rfl rfl (take_ofW HT_.out HW_.out (by kernel_rfl)) (fun _ _ _ h => h) (Or.inl ⟨by rfl, ?_⟩) hHeld ?_ ?_
                   rotate_left
                   ·rintro w' ⟨s0, s1, s2, s3, s4, s5, s6, s7, s8, s9⟩
                    go_simp
                    with_reducible rfl
                   rotate_left
                   ·simp only [Act.put, List.setIfInBounds_toArray, List.set_cons_zero, List.set_cons_succ, i64_w, i32_w]
                    rfl
                   refine pure_ (i := 8) (N := some 126) (v := ?_) (a' := ?_) #[true, true, true, true, true, true, true, true, true, false, false, false, false, false, false, false, false, false, false, false, false] rfl rfl (any_of HT_.out (by kernel_rfl)) (fun _ _ _ h => h) (Or.inl ⟨by rfl, ?_⟩) ?_ ?_
                   rotate_left
                   ·intro w'
                    go_simp
                    with_reducible rfl
                   rotate_left
                   ·simp only [Act.put, List.setIfInBounds_toArray, List.set_cons_zero, List.set_cons_succ, i64_w, i32_w]
                    rfl
                   refine pure_ (i := 9) (N := some 127) (v := ?_) (a' := ?_) #[true, true, true, true, true, true, true, true, true, true, false, false, false, false, false, false, false, false, false, false, false] rfl rfl (any_of HT_.out (by kernel_rfl)) (fun _ _ _ h => h) (Or.inl ⟨by rfl, ?_⟩) ?_ ?_
                   rotate_left
                   ·intro w'
                    go_simp
                    with_reducible rfl
                   rotate_left
                   ·simp only [Act.put, List.setIfInBounds_toArray, List.set_cons_zero, List.set_cons_succ, i64_w, i32_w]
                    rfl
                   refine pure_ (i := 10) (N := some 128) (v := ?_) (a' := ?_) #[true, true, true, true, true, true, true, true, true, true, true, false, false, false, false, false, false, false, false, false, false] rfl rfl (any_of HT_.out (by kernel_rfl)) (fun _ _ _ h => h) (Or.inl ⟨by rfl, ?_⟩) ?_ ?_
                   rotate_left
                   ·intro w'
                    go_simp
                    with_reducible rfl
                   rotate_left
                   ·simp only [Act.put, List.setIfInBounds_toArray, List.set_cons_zero, List.set_cons_succ, i64_w, i32_w]
                    rfl
                   refine pure_ (i := 11) (N := some 129) (v := ?_) (a' := ?_) #[true, true, true, true, true, true, true, true, true, true, true, true, false, false, false, false, false, false, false, false, false] rfl rfl (any_of HT_.out (by kernel_rfl)) (fun _ _ _ h => h) (Or.inl ⟨by rfl, ?_⟩) ?_ ?_
                   rotate_left
                   ·intro w'
                    go_simp
                    with_reducible rfl
                   rotate_left
                   ·simp only [Act.put, List.setIfInBounds_toArray, List.set_cons_zero, List.set_cons_succ, i64_w, i32_w]
                    rfl
                   refine pure_ (i := 12) (N := some 130) (v := ?_) (a' := ?_) #[true, true, true, true, true, true, true, true, true, true, true, true, true, false, false, false, false, false, false, false, false] rfl rfl (any_of HT_.out (by kernel_rfl)) (fun _ _ _ h => h) (Or.inl ⟨by rfl, ?_⟩) ?_ ?_
                   rotate_left
                   ·intro w'
                    go_simp
                    with_reducible rfl
                   rotate_left
                   ·simp only [Act.put, List.setIfInBounds_toArray, List.set_cons_zero, List.set_cons_succ, i64_w, i32_w]
                    rfl
                   refine pure_ (i := 14) (N := some 132) (v := ?_) (a' := ?_) #[true, true, true, true, true, true, true, true, true, true, true, true, true, false, true, false, false, false, false, false, false] rfl rfl (any_of HT_.out (by kernel_rfl)) (fun _ _ _ h => h) (Or.inl ⟨by rfl, ?_⟩) ?_ ?_
                   rotate_left
                   ·intro w'
                    go_simp
                    with_reducible rfl
                   rotate_left
                   ·simp only [Act.put, List.setIfInBounds_toArray, List.set_cons_zero, List.set_cons_succ, i64_w, i32_w]
                    rfl
                   refine pure_ (i := 16) (N := some 134) (v := ?_) (a' := ?_) #[true, true, true, true, true, true, true, true, true, true, true, true, true, false, true, false, true, false, false, false, false] rfl rfl (any_of HT_.out (by kernel_rfl)) (fun _ _ _ h => h) (Or.inl ⟨by rfl, ?_⟩) ?_ ?_
                   rotate_left
                   ·intro w'
                    go_simp
                    with_reducible rfl
                   rotate_left
                   ·simp only [Act.put, List.setIfInBounds_toArray, List.set_cons_zero, List.set_cons_succ, i64_w, i32_w]
                    rfl
                   refine take_ (i := 13) (N := some 131) (v := ?_) (a' := ?_) #[true, true, true, true, true, true, true, true, true, true, true, true, true, true, true, false, true, false, false, false, false] rfl rfl (take_ofW HT_.out HW_.out (by kernel_rfl)) (fun _ _ _ h => h) (Or.inl ⟨by rfl, ?_⟩) hHeld ?_ ?_
                   rotate_left
                   ·rintro w' ⟨s0, s1, s2, s3, s4, s5, s6, s7, s8, s9⟩
                    go_simp
                    with_reducible rfl
                   rotate_left
                   ·simp only [Act.put, List.setIfInBounds_toArray, List.set_cons_zero, List.set_cons_succ, i64_w, i32_w]
                    rfl
                   refine take_ (i := 15) (N := some 133) (v := ?_) (a' := ?_) #[true, true, true, true, true, true, true, true, true, true, true, true, true, true, true, true, true, false, false, false, false] rfl rfl (take_ofW HT_.out HW_.out (by kernel_rfl)) (fun _ _ _ h => h) (Or.inl ⟨by rfl, ?_⟩) hHeld ?_ ?_
                   rotate_left
                   ·rintro w' ⟨s0, s1, s2, s3, s4, s5, s6, s7, s8, s9⟩
                    go_simp
                    with_reducible rfl
                   rotate_left
                   ·simp only [Act.put, List.setIfInBounds_toArray, List.set_cons_zero, List.set_cons_succ, i64_w, i32_w]
                    rfl
                   refine take_ (i := 17) (N := some 135) (v := ?_) (a' := ?_) #[true, true, true, true, true, true, true, true, true, true, true, true, true, true, true, true, true, true, false, false, false] rfl rfl (take_ofW HT_.out HW_.out (by kernel_rfl)) (fun _ _ _ h => h) (Or.inl ⟨by rfl, ?_⟩) hHeld ?_ ?_
                   rotate_left
                   ·rintro w' ⟨s0, s1, s2, s3, s4, s5, s6, s7, s8, s9⟩
                    go_simp
                    with_reducible rfl
                   rotate_left
                   ·simp only [Act.put, List.setIfInBounds_toArray, List.set_cons_zero, List.set_cons_succ, i64_w, i32_w]
                    rfl
                   refine pure_ (i := 18) (N := some 136) (v := ?_) (a' := ?_) #[true, true, true, true, true, true, true, true, true, true, true, true, true, true, true, true, true, true, true, false, false] rfl rfl (any_of HT_.out (by kernel_rfl)) (fun _ _ _ h => h) (Or.inl ⟨by rfl, ?_⟩) ?_ ?_
                   rotate_left
                   ·intro w'
                    go_simp
                    with_reducible rfl
                   rotate_left
                   ·simp only [Act.put, List.setIfInBounds_toArray, List.set_cons_zero, List.set_cons_succ, i64_w, i32_w]
                    rfl
                   refine pure_ (i := 19) (N := some 137) (v := ?_) (a' := ?_) #[true, true, true, true, true, true, true, true, true, true, true, true, true, true, true, true, true, true, true, true, false] rfl rfl (any_of HT_.out (by kernel_rfl)) (fun _ _ _ h => h) (Or.inl ⟨by rfl, ?_⟩) ?_ ?_
                   rotate_left
                   ·intro w'
                    go_simp
                    with_reducible rfl
                   rotate_left
                   ·simp only [Act.put, List.setIfInBounds_toArray, List.set_cons_zero, List.set_cons_succ, i64_w, i32_w]
                    rfl
                   refine pure_ (i := 20) (N := some 138) (v := ?_) (a' := ?_) #[true, true, true, true, true, true, true, true, true, true, true, true, true, true, true, true, true, true, true, true, true] rfl rfl (any_of HT_.out (by kernel_rfl)) (fun _ _ _ h => h) (Or.inl ⟨by rfl, ?_⟩) ?_ ?_
                   rotate_left
                   ·intro w'
                    go_simp
                    with_reducible rfl
                   rotate_left
                   ·simp only [Act.put, List.setIfInBounds_toArray, List.set_cons_zero, List.set_cons_succ, i64_w, i32_w]
                    rfl
                   refine done_ (done_of HT_.out (by kernel_rfl)) ?_
                   try go_wp2
                   go_ret
                   exact ⟨by first | rfl | (simp [bne]; done) | (simp [*] <;> rfl), by with_reducible repeat (first | exact HB.out | apply below_alloc | apply pw_below_drewN | apply below_drew1 | refine below_set ?_ GE228.out | refine below_set ?_ GE253.out)⟩
                  ·rw [if_neg c95] at H
                   have c95b0 : decide ((wrap64 (((rd_T34 t225 x113_2).f5) - ((rd_T34 t225 x113_2).f4))) < (rd t232 x113_2)) = false := decide_eq_false c95
                   clear c95
                   have H' := Aside0.mk H
                   clear H
                   have p252 : 0 ≤ (x113_2 : Int) := of_decide_eq_true (by assumption)
                   have q252 : x113_2 < (t225.length : Int) := of_decide_eq_true (by assumption)
                   obtain ⟨ad252, e252, hx252_0, hx252_1, hx252_2, hx252_3, hx252_4, hx252_5, hx252_6⟩ := at_T34 (Kd.R_reads' HO_111.out).2.2 x113_2 p252 q252
                   obtain rfl : ad240 = ad252 := (by injection e252)
                   replace p252 := eq_true p252
                   replace q252 := eq_true q252
                   try go_wp2_with (first | ((with_reducible refine gate_dst (N := 14) rfl ?_); (try (refine gate_guard (by rfl) ?_; dsimp only)); refine box_event ?hg (N := 14) ?hd (cs := #[.int .i64 0, .int .i64 0, .string ⟨#[]⟩, .string ⟨#[]⟩, .int .i64 0, .int .i64 0, .bool false]) (t := 34) ?hr ?_; (case hd => rfl); (case hg => rfl); (case hr => first | (go_simp; done) | (go_simp; rfl)); intro gb253 hg w102 hbox hb; have n0_ := Aside0.mk (Kd.R_below (by (with_reducible repeat (first | apply Kd.R_alloc | apply Kd.R_drewN | apply Kd.R_drew)); exact HO_5.out) hb); have n1_ := Aside0.mk (Kd.R_below (by (with_reducible repeat (first | apply Kd.R_alloc | apply Kd.R_drewN | apply Kd.R_drew)); exact HO_7.out) hb); have n2_ := Aside0.mk (Kd.R_below (Kd.R_elderB (by (with_reducible repeat (first | apply Kd.R_alloc | apply Kd.R_drewN | apply Kd.R_drew)); exact HO_111.out) gb253 (Nat.le_of_eq hg.symm)) hb); have n3_ := Aside0.mk (Kd.R_below (Kd.R_elderB (by (with_reducible repeat (first | apply Kd.R_alloc | apply Kd.R_drewN | apply Kd.R_drew)); exact HO_229001.out) gb253 (Nat.le_of_eq hg.symm)) hb); have n4_ := Aside0.mk (blk_below (g := gb228) (by (with_reducible repeat (first | apply blk_drewN | apply blk_drew | apply blk_alloc)); exact BK228.out) hb); have n5_ := Aside0.mk (below_step (by with_reducible repeat (first | exact HB.out | apply below_alloc | apply pw_below_drewN | apply below_drew1 | refine below_set ?_ GE228.out)) hb); have n6_ := Aside0.mk (hbox); have n7_ := Aside0.mk ((by rw [hg]; exact (below_size (by with_reducible repeat (first | exact HB.out | apply below_alloc | apply pw_below_drewN | apply below_drew1 | refine below_set ?_ GE228.out))) : w.heap.size ≤ gb253)); have n8_ := n7_; have n9_ := Aside0.mk ((by rw [hg]; exact Nat.ne_of_lt (blk_lt (g := gb228) (by (with_reducible repeat (first | apply blk_drewN | apply blk_drew | apply blk_alloc)); exact BK228.out)) : gb228 ≠ gb253)); have n10_ := Aside0.mk ((by rw [hg]; exact Nat.ne_of_gt (blk_lt (g := gb228) (by (with_reducible repeat (first | apply blk_drewN | apply blk_drew | apply blk_alloc)); exact BK228.out)) : gb253 ≠ gb228)); clear HO_5; clear HO_7; clear HO_111; clear HO_229001; clear BK228; clear HB; have HO_5 := n0_; have HO_7 := n1_; have HO_111 := n2_; have HO_229001 := n3_; have BK228 := n4_; have HB := n5_; have BK253 := n6_; have GW253 := n7_; have GE253 := n8_; have NB228_253 := n9_; have NB253_228 := n10_; clear n0_ n1_ n2_ n3_ n4_ n5_ n6_ n7_ n8_ n9_ n10_; clear hb hbox hg; have hnb103 := NB253_228.out; have hnc103 := NB228_253.out; have hcz104_0 : w102.cell? ⟨gb253, 0, none⟩ = some (.int .i64 0) := (blk_cell BK253.out 0).trans rfl; have hcz104_1 : w102.cell? ⟨gb253, 1, none⟩ = some (.int .i64 0) := (blk_cell BK253.out 1).trans rfl; have hcz104_2 : w102.cell? ⟨gb253, 2, none⟩ = some (.string ⟨#[]⟩) := (blk_cell BK253.out 2).trans rfl; have hcz104_3 : w102.cell? ⟨gb253, 3, none⟩ = some (.string ⟨#[]⟩) := (blk_cell BK253.out 3).trans rfl; have hcz104_4 : w102.cell? ⟨gb253, 4, none⟩ = some (.int .i64 0) := (blk_cell BK253.out 4).trans rfl; have hcz104_5 : w102.cell? ⟨gb253, 5, none⟩ = some (.int .i64 0) := (blk_cell BK253.out 5).trans rfl; have hcz104_6 : w102.cell? ⟨gb253, 6, none⟩ = some (.bool false) := (blk_cell BK253.out 6).trans rfl; have hfz104_0 := blk_frozen BK253.out 0; have hfz104_1 := blk_frozen BK253.out 1; have hfz104_2 := blk_frozen BK253.out 2; have hfz104_3 := blk_frozen BK253.out 3; have hfz104_4 := blk_frozen BK253.out 4; have hfz104_5 := blk_frozen BK253.out 5; have hfz104_6 := blk_frozen BK253.out 6))
                   have n0_ : Aside0 (Kd.R (Kd.int .i64) 3 (((((((w102.setCell ⟨gb253, 0, none⟩ (.int .i64 ((rd_T34 t225 x113_2).f0))).setCell ⟨gb253, 1, none⟩ (.int .i64 ((rd_T34 t225 x113_2).f1))).setCell ⟨gb253, 2, none⟩ (.string ((rd_T34 t225 x113_2).f2))).setCell ⟨gb253, 3, none⟩ (.string ((rd_T34 t225 x113_2).f3))).setCell ⟨gb253, 4, none⟩ (.int .i64 ((rd_T34 t225 x113_2).f4))).setCell ⟨gb253, 5, none⟩ (.int .i64 ((rd_T34 t225 x113_2).f5))).setCell ⟨gb253, 6, none⟩ (.bool ((rd_T34 t225 x113_2).f6))) w.heap.size (fun k_ => some k_ ≠ (v242 : Value).ownBlock) (.slice Ao25 t232.length co25) t232) := ⟨by (with_reducible repeat (first | apply Kd.R_alloc | apply Kd.R_drewN | apply Kd.R_drew)); exact Kd.R_mono (Kd.R_far (p := ⟨gb253, 6, none⟩) (Kd.R_far (p := ⟨gb253, 5, none⟩) (Kd.R_far (p := ⟨gb253, 4, none⟩) (Kd.R_far (p := ⟨gb253, 3, none⟩) (Kd.R_far (p := ⟨gb253, 2, none⟩) (Kd.R_far (p := ⟨gb253, 1, none⟩) (Kd.R_far (p := ⟨gb253, 0, none⟩) (Kd.R_types HO_5.out BK253.out (by decide)) (fun _ hk => hk.2) (.int .i64 ((rd_T34 t225 x113_2).f0))) (fun _ hk => hk.2) (.int .i64 ((rd_T34 t225 x113_2).f1))) (fun _ hk => hk.2) (.string ((rd_T34 t225 x113_2).f2))) (fun _ hk => hk.2) (.string ((rd_T34 t225 x113_2).f3))) (fun _ hk => hk.2) (.int .i64 ((rd_T34 t225 x113_2).f4))) (fun _ hk => hk.2) (.int .i64 ((rd_T34 t225 x113_2).f5))) (fun _ hk => hk.2) (.bool ((rd_T34 t225 x113_2).f6))) (fun _ hk => hk.1)⟩
                   have n1_ : Aside0 (Kd.R (Kd.int .i64) 3 (((((((w102.setCell ⟨gb253, 0, none⟩ (.int .i64 ((rd_T34 t225 x113_2).f0))).setCell ⟨gb253, 1, none⟩ (.int .i64 ((rd_T34 t225 x113_2).f1))).setCell ⟨gb253, 2, none⟩ (.string ((rd_T34 t225 x113_2).f2))).setCell ⟨gb253, 3, none⟩ (.string ((rd_T34 t225 x113_2).f3))).setCell ⟨gb253, 4, none⟩ (.int .i64 ((rd_T34 t225 x113_2).f4))).setCell ⟨gb253, 5, none⟩ (.int .i64 ((rd_T34 t225 x113_2).f5))).setCell ⟨gb253, 6, none⟩ (.bool ((rd_T34 t225 x113_2).f6))) w.heap.size (fun k_ => some k_ ≠ (.slice Ao25 t232.length co25 : Value).ownBlock) v242 x7_1) := ⟨by (with_reducible repeat (first | apply Kd.R_alloc | apply Kd.R_drewN | apply Kd.R_drew)); exact Kd.R_mono (Kd.R_far (p := ⟨gb253, 6, none⟩) (Kd.R_far (p := ⟨gb253, 5, none⟩) (Kd.R_far (p := ⟨gb253, 4, none⟩) (Kd.R_far (p := ⟨gb253, 3, none⟩) (Kd.R_far (p := ⟨gb253, 2, none⟩) (Kd.R_far (p := ⟨gb253, 1, none⟩) (Kd.R_far (p := ⟨gb253, 0, none⟩) (Kd.R_types HO_7.out BK253.out (by decide)) (fun _ hk => hk.2) (.int .i64 ((rd_T34 t225 x113_2).f0))) (fun _ hk => hk.2) (.int .i64 ((rd_T34 t225 x113_2).f1))) (fun _ hk => hk.2) (.string ((rd_T34 t225 x113_2).f2))) (fun _ hk => hk.2) (.string ((rd_T34 t225 x113_2).f3))) (fun _ hk => hk.2) (.int .i64 ((rd_T34 t225 x113_2).f4))) (fun _ hk => hk.2) (.int .i64 ((rd_T34 t225 x113_2).f5))) (fun _ hk => hk.2) (.bool ((rd_T34 t225 x113_2).f6))) (fun _ hk => hk.1)⟩
                   have n2_ : Aside0 (Kd.R k34 34 (((((((w102.setCell ⟨gb253, 0, none⟩ (.int .i64 ((rd_T34 t225 x113_2).f0))).setCell ⟨gb253, 1, none⟩ (.int .i64 ((rd_T34 t225 x113_2).f1))).setCell ⟨gb253, 2, none⟩ (.string ((rd_T34 t225 x113_2).f2))).setCell ⟨gb253, 3, none⟩ (.string ((rd_T34 t225 x113_2).f3))).setCell ⟨gb253, 4, none⟩ (.int .i64 ((rd_T34 t225 x113_2).f4))).setCell ⟨gb253, 5, none⟩ (.int .i64 ((rd_T34 t225 x113_2).f5))).setCell ⟨gb253, 6, none⟩ (.bool ((rd_T34 t225 x113_2).f6))) w.heap.size (fun k_ => k_ ≠ gb253) (.slice (some ad240) t225.length co17) t225) := ⟨by (with_reducible repeat (first | apply Kd.R_alloc | apply Kd.R_drewN | apply Kd.R_drew)); exact Kd.R_mono (Kd.R_far (p := ⟨gb253, 6, none⟩) (Kd.R_far (p := ⟨gb253, 5, none⟩) (Kd.R_far (p := ⟨gb253, 4, none⟩) (Kd.R_far (p := ⟨gb253, 3, none⟩) (Kd.R_far (p := ⟨gb253, 2, none⟩) (Kd.R_far (p := ⟨gb253, 1, none⟩) (Kd.R_far (p := ⟨gb253, 0, none⟩) (Kd.R_mono HO_111.out (fun k_ hk => (⟨hk, hk.2⟩ : _ ∧ k_ ≠ gb253))) (fun _ hk => hk.2) (.int .i64 ((rd_T34 t225 x113_2).f0))) (fun _ hk => hk.2) (.int .i64 ((rd_T34 t225 x113_2).f1))) (fun _ hk => hk.2) (.string ((rd_T34 t225 x113_2).f2))) (fun _ hk => hk.2) (.string ((rd_T34 t225 x113_2).f3))) (fun _ hk => hk.2) (.int .i64 ((rd_T34 t225 x113_2).f4))) (fun _ hk => hk.2) (.int .i64 ((rd_T34 t225 x113_2).f5))) (fun _ hk => hk.2) (.bool ((rd_T34 t225 x113_2).f6))) (fun _ hk => hk.1.2)⟩
                   have n3_ : Aside0 (Kd.R k34 34 (((((((w102.setCell ⟨gb253, 0, none⟩ (.int .i64 ((rd_T34 t225 x113_2).f0))).setCell ⟨gb253, 1, none⟩ (.int .i64 ((rd_T34 t225 x113_2).f1))).setCell ⟨gb253, 2, none⟩ (.string ((rd_T34 t225 x113_2).f2))).setCell ⟨gb253, 3, none⟩ (.string ((rd_T34 t225 x113_2).f3))).setCell ⟨gb253, 4, none⟩ (.int .i64 ((rd_T34 t225 x113_2).f4))).setCell ⟨gb253, 5, none⟩ (.int .i64 ((rd_T34 t225 x113_2).f5))).setCell ⟨gb253, 6, none⟩ (.bool ((rd_T34 t225 x113_2).f6))) w.heap.size (fun k_ => k_ ≠ gb253) (.slice (some ad240) t225.length co17) t225) := ⟨by (with_reducible repeat (first | apply Kd.R_alloc | apply Kd.R_drewN | apply Kd.R_drew)); exact Kd.R_mono (Kd.R_far (p := ⟨gb253, 6, none⟩) (Kd.R_far (p := ⟨gb253, 5, none⟩) (Kd.R_far (p := ⟨gb253, 4, none⟩) (Kd.R_far (p := ⟨gb253, 3, none⟩) (Kd.R_far (p := ⟨gb253, 2, none⟩) (Kd.R_far (p := ⟨gb253, 1, none⟩) (Kd.R_far (p := ⟨gb253, 0, none⟩) (Kd.R_mono HO_229001.out (fun k_ hk => (⟨hk, hk.2⟩ : _ ∧ k_ ≠ gb253))) (fun _ hk => hk.2) (.int .i64 ((rd_T34 t225 x113_2).f0))) (fun _ hk => hk.2) (.int .i64 ((rd_T34 t225 x113_2).f1))) (fun _ hk => hk.2) (.string ((rd_T34 t225 x113_2).f2))) (fun _ hk => hk.2) (.string ((rd_T34 t225 x113_2).f3))) (fun _ hk => hk.2) (.int .i64 ((rd_T34 t225 x113_2).f4))) (fun _ hk => hk.2) (.int .i64 ((rd_T34 t225 x113_2).f5))) (fun _ hk => hk.2) (.bool ((rd_T34 t225 x113_2).f6))) (fun _ hk => hk.1.2)⟩
                   have n4_ : Aside0 ((((((((w102.setCell ⟨gb253, 0, none⟩ (.int .i64 ((rd_T34 t225 x113_2).f0))).setCell ⟨gb253, 1, none⟩ (.int .i64 ((rd_T34 t225 x113_2).f1))).setCell ⟨gb253, 2, none⟩ (.string ((rd_T34 t225 x113_2).f2))).setCell ⟨gb253, 3, none⟩ (.string ((rd_T34 t225 x113_2).f3))).setCell ⟨gb253, 4, none⟩ (.int .i64 ((rd_T34 t225 x113_2).f4))).setCell ⟨gb253, 5, none⟩ (.int .i64 ((rd_T34 t225 x113_2).f5))).setCell ⟨gb253, 6, none⟩ (.bool ((rd_T34 t225 x113_2).f6))).heap[gb228]? = some (.cells #[.int .i64 t224, .slice (some ad240) t225.length co17] 25 (0, 0))) := ⟨by (with_reducible repeat (first | apply blk_drewN | apply blk_drew | apply blk_alloc)); refine blk_far ?_ NB228_253.out _; (with_reducible repeat (first | apply blk_drewN | apply blk_drew | apply blk_alloc)); refine blk_far ?_ NB228_253.out _; (with_reducible repeat (first | apply blk_drewN | apply blk_drew | apply blk_alloc)); refine blk_far ?_ NB228_253.out _; (with_reducible repeat (first | apply blk_drewN | apply blk_drew | apply blk_alloc)); refine blk_far ?_ NB228_253.out _; (with_reducible repeat (first | apply blk_drewN | apply blk_drew | apply blk_alloc)); refine blk_far ?_ NB228_253.out _; (with_reducible repeat (first | apply blk_drewN | apply blk_drew | apply blk_alloc)); refine blk_far ?_ NB228_253.out _; (with_reducible repeat (first | apply blk_drewN | apply blk_drew | apply blk_alloc)); refine blk_far ?_ NB228_253.out _; (with_reducible repeat (first | apply blk_drewN | apply blk_drew | apply blk_alloc)); exact BK228.out⟩
                   have n5_ : Aside0 ((((((((w102.setCell ⟨gb253, 0, none⟩ (.int .i64 ((rd_T34 t225 x113_2).f0))).setCell ⟨gb253, 1, none⟩ (.int .i64 ((rd_T34 t225 x113_2).f1))).setCell ⟨gb253, 2, none⟩ (.string ((rd_T34 t225 x113_2).f2))).setCell ⟨gb253, 3, none⟩ (.string ((rd_T34 t225 x113_2).f3))).setCell ⟨gb253, 4, none⟩ (.int .i64 ((rd_T34 t225 x113_2).f4))).setCell ⟨gb253, 5, none⟩ (.int .i64 ((rd_T34 t225 x113_2).f5))).setCell ⟨gb253, 6, none⟩ (.bool ((rd_T34 t225 x113_2).f6))).heap[gb253]? = some (.cells #[.int .i64 ((rd_T34 t225 x113_2).f0), .int .i64 ((rd_T34 t225 x113_2).f1), .string ((rd_T34 t225 x113_2).f2), .string ((rd_T34 t225 x113_2).f3), .int .i64 ((rd_T34 t225 x113_2).f4), .int .i64 ((rd_T34 t225 x113_2).f5), .bool ((rd_T34 t225 x113_2).f6)] 34 (0, 0))) := ⟨by (with_reducible repeat (first | apply blk_drewN | apply blk_drew | apply blk_alloc)); refine blk_put (cs := #[.int .i64 ((rd_T34 t225 x113_2).f0), .int .i64 ((rd_T34 t225 x113_2).f1), .string ((rd_T34 t225 x113_2).f2), .string ((rd_T34 t225 x113_2).f3), .int .i64 ((rd_T34 t225 x113_2).f4), .int .i64 ((rd_T34 t225 x113_2).f5), .bool false]) ?_ 6 _ rfl; (with_reducible repeat (first | apply blk_drewN | apply blk_drew | apply blk_alloc)); refine blk_put (cs := #[.int .i64 ((rd_T34 t225 x113_2).f0), .int .i64 ((rd_T34 t225 x113_2).f1), .string ((rd_T34 t225 x113_2).f2), .string ((rd_T34 t225 x113_2).f3), .int .i64 ((rd_T34 t225 x113_2).f4), .int .i64 0, .bool false]) ?_ 5 _ rfl; (with_reducible repeat (first | apply blk_drewN | apply blk_drew | apply blk_alloc)); refine blk_put (cs := #[.int .i64 ((rd_T34 t225 x113_2).f0), .int .i64 ((rd_T34 t225 x113_2).f1), .string ((rd_T34 t225 x113_2).f2), .string ((rd_T34 t225 x113_2).f3), .int .i64 0, .int .i64 0, .bool false]) ?_ 4 _ rfl; (with_reducible repeat (first | apply blk_drewN | apply blk_drew | apply blk_alloc)); refine blk_put (cs := #[.int .i64 ((rd_T34 t225 x113_2).f0), .int .i64 ((rd_T34 t225 x113_2).f1), .string ((rd_T34 t225 x113_2).f2), .string ⟨#[]⟩, .int .i64 0, .int .i64 0, .bool false]) ?_ 3 _ rfl; (with_reducible repeat (first | apply blk_drewN | apply blk_drew | apply blk_alloc)); refine blk_put (cs := #[.int .i64 ((rd_T34 t225 x113_2).f0), .int .i64 ((rd_T34 t225 x113_2).f1), .string ⟨#[]⟩, .string ⟨#[]⟩, .int .i64 0, .int .i64 0, .bool false]) ?_ 2 _ rfl; (with_reducible repeat (first | apply blk_drewN | apply blk_drew | apply blk_alloc)); refine blk_put (cs := #[.int .i64 ((rd_T34 t225 x113_2).f0), .int .i64 0, .string ⟨#[]⟩, .string ⟨#[]⟩, .int .i64 0, .int .i64 0, .bool false]) ?_ 1 _ rfl; (with_reducible repeat (first | apply blk_drewN | apply blk_drew | apply blk_alloc)); refine blk_put (cs := #[.int .i64 0, .int .i64 0, .string ⟨#[]⟩, .string ⟨#[]⟩, .int .i64 0, .int .i64 0, .bool false]) ?_ 0 _ rfl; (with_reducible repeat (first | apply blk_drewN | apply blk_drew | apply blk_alloc)); exact BK253.out⟩
                   have n6_ : Aside0 (Below w.heap.size w (((((((w102.setCell ⟨gb253, 0, none⟩ (.int .i64 ((rd_T34 t225 x113_2).f0))).setCell ⟨gb253, 1, none⟩ (.int .i64 ((rd_T34 t225 x113_2).f1))).setCell ⟨gb253, 2, none⟩ (.string ((rd_T34 t225 x113_2).f2))).setCell ⟨gb253, 3, none⟩ (.string ((rd_T34 t225 x113_2).f3))).setCell ⟨gb253, 4, none⟩ (.int .i64 ((rd_T34 t225 x113_2).f4))).setCell ⟨gb253, 5, none⟩ (.int .i64 ((rd_T34 t225 x113_2).f5))).setCell ⟨gb253, 6, none⟩ (.bool ((rd_T34 t225 x113_2).f6)))) := ⟨by with_reducible repeat (first | exact HB.out | apply below_alloc | apply pw_below_drewN | apply below_drew1 | refine below_set ?_ GE228.out | refine below_set ?_ GE253.out)⟩
                   (try clear HO_5)
                   (try clear HO_7)
                   (try clear HO_111)
                   (try clear HO_229001)
                   (try clear BK228)
                   (try clear BK253)
                   (try clear HB)
                   generalize (((((((w102.setCell ⟨gb253, 0, none⟩ (.int .i64 ((rd_T34 t225 x113_2).f0))).setCell ⟨gb253, 1, none⟩ (.int .i64 ((rd_T34 t225 x113_2).f1))).setCell ⟨gb253, 2, none⟩ (.string ((rd_T34 t225 x113_2).f2))).setCell ⟨gb253, 3, none⟩ (.string ((rd_T34 t225 x113_2).f3))).setCell ⟨gb253, 4, none⟩ (.int .i64 ((rd_T34 t225 x113_2).f4))).setCell ⟨gb253, 5, none⟩ (.int .i64 ((rd_T34 t225 x113_2).f5))).setCell ⟨gb253, 6, none⟩ (.bool ((rd_T34 t225 x113_2).f6))) = w105 at n0_ n1_ n2_ n3_ n4_ n5_ n6_ ⊢
                   have HO_5 := n0_
                   have HO_7 := n1_
                   have HO_111 := n2_
                   have HO_229001 := n3_
                   have BK228 := n4_
                   have BK253 := n5_
                   have HB := n6_
                   clear n0_ n1_ n2_ n3_ n4_ n5_ n6_
                   have n0_ := Aside0.mk (Kd.R_drew HO_5.out)
                   have n1_ := Aside0.mk (Kd.R_drew HO_7.out)
                   have n2_ := Aside0.mk (Kd.R_drew HO_111.out)
                   have n3_ := Aside0.mk (Kd.R_drew HO_229001.out)
                   have n4_ := Aside0.mk (blk_drew BK228.out)
                   have n5_ := Aside0.mk (blk_drew BK253.out)
                   have n6_ := Aside0.mk (below_drew1 HB.out)
                   clear HO_5
                   clear HO_7
                   clear HO_111
                   clear HO_229001
                   clear BK228
                   clear BK253
                   clear HB
                   have HO_5 := n0_
                   have HO_7 := n1_
                   have HO_111 := n2_
                   have HO_229001 := n3_
                   have BK228 := n4_
                   have BK253 := n5_
                   have HB := n6_
                   clear n0_ n1_ n2_ n3_ n4_ n5_ n6_
                   obtain ⟨Ao107, co107, eo107⟩ := Kd.R_slice HO_7.out
                   (first | subst eo107 | (injection eo107 with f1_ f2_ f3_; have f4_ := f1_.symm; have f5_ := f3_.symm; clear f1_ f2_ f3_; subst f4_; subst f5_))
                   have p254 : 0 ≤ (x113_2 : Int) := of_decide_eq_true (by assumption)
                   have q254 : x113_2 < (x7_1.length : Int) := of_decide_eq_true (by assumption)
                   obtain ⟨ad254, e254, hx254_0⟩ := Kd.at_int (Kd.R_reads' HO_7.out).2.2 x113_2 p254 q254
                   cases e254
                   replace p254 := eq_true p254
                   replace q254 := eq_true q254
                   have p255 : 0 ≤ (x113_2 : Int) := of_decide_eq_true (by assumption)
                   have q255 : x113_2 < (t232.length : Int) := of_decide_eq_true (by assumption)
                   obtain ⟨ad255, e255, hx255_0⟩ := Kd.at_int (Kd.R_reads' HO_5.out).2.2 x113_2 p255 q255
                   cases e255
                   replace p255 := eq_true p255
                   replace q255 := eq_true q255
                   have p256 : 0 ≤ (x113_2 : Int) := of_decide_eq_true (by assumption)
                   have q256 : x113_2 < (t232.length : Int) := of_decide_eq_true (by assumption)
                   obtain ⟨ad256, e256, hx256_0⟩ := Kd.at_int (Kd.R_reads' HO_5.out).2.2 x113_2 p256 q256
                   obtain rfl : ad255 = ad256 := (by injection e256)
                   replace p256 := eq_true p256
                   replace q256 := eq_true q256
                   refine start_ (n := 21) (S := fun w' => w'.cell? ⟨gb253, 0, none⟩ = some (.int .i64 ((rd_T34 t225 x113_2).f0)) ∧ w'.cell? ⟨gb253, 1, none⟩ = some (.int .i64 ((rd_T34 t225 x113_2).f1)) ∧ w'.cell? ⟨gb253, 2, none⟩ = some (.string ((rd_T34 t225 x113_2).f2)) ∧ w'.cell? ⟨gb253, 3, none⟩ = some (.string ((rd_T34 t225 x113_2).f3)) ∧ w'.cell? ⟨gb253, 4, none⟩ = some (.int .i64 ((rd_T34 t225 x113_2).f4)) ∧ w'.cell? ⟨gb253, 5, none⟩ = some (.int .i64 ((rd_T34 t225 x113_2).f5)) ∧ w'.cell? ⟨gb253, 6, none⟩ = some (.bool ((rd_T34 t225 x113_2).f6)) ∧ w'.cell? (ad254.add (x113_2).toNat) = some (.int .i64 (rd x7_1 x113_2)) ∧ w'.cell? (ad255.add (x113_2).toNat) = some (.int .i64 (rd t232 x113_2)) ∧ w'.cell? (ad255.add (x113_2).toNat) = some (.int .i64 (rd t232 x113_2))) (ds := []) #[false, false, false, false, false, false, false, false, false, false, false, false, false, false, false, false, false, false, false, false, false] (by kernel_rfl) rfl rfl ⟨(blk_cell BK253.out 0).trans rfl, (blk_cell BK253.out 1).trans rfl, (blk_cell BK253.out 2).trans rfl, (blk_cell BK253.out 3).trans rfl, (blk_cell BK253.out 4).trans rfl, (blk_cell BK253.out 5).trans rfl, (blk_cell BK253.out 6).trans rfl, hx254_0, hx255_0, hx256_0⟩ (fun hHeld => ?_); refine with_tabW laws_FnCritical.tab30 laws_FnCritical.bits30 (fun HT_ HW_ => ?_)
                   generalize w105.drew = w106 at HO_5 HO_7 HO_111 HO_229001 BK228 BK253 HB hx254_0 hx255_0 hx256_0 hHeld ⊢
                   refine pure_ (i := 0) (N := some 118) (v := ?_) (a' := ?_) #[true, false, false, false, false, false, false, false, false, false, false, false, false, false, false, false, false, false, false, false, false] rfl rfl (any_of HT_.out (by kernel_rfl)) (fun _ _ _ h => h) (Or.inl ⟨by rfl, ?_⟩) ?_ ?_
                   rotate_left
                   ·intro w'
                    go_simp
                    with_reducible rfl
                   rotate_left
                   ·simp only [Act.put, List.setIfInBounds_toArray, List.set_cons_zero, List.set_cons_succ, i64_w, i32_w]
                    rfl
                   refine pure_ (i := 1) (N := some 119) (v := ?_) (a' := ?_) #[true, true, false, false, false, false, false, false, false, false, false, false, false, false, false, false, false, false, false, false, false] rfl rfl (any_of HT_.out (by kernel_rfl)) (fun _ _ _ h => h) (Or.inl ⟨by rfl, ?_⟩) ?_ ?_
                   rotate_left
                   ·intro w'
                    go_simp
                    with_reducible rfl
                   rotate_left
                   ·simp only [Act.put, List.setIfInBounds_toArray, List.set_cons_zero, List.set_cons_succ, i64_w, i32_w]
                    rfl
                   refine pure_ (i := 2) (N := some 120) (v := ?_) (a' := ?_) #[true, true, true, false, false, false, false, false, false, false, false, false, false, false, false, false, false, false, false, false, false] rfl rfl (any_of HT_.out (by kernel_rfl)) (fun _ _ _ h => h) (Or.inl ⟨by rfl, ?_⟩) ?_ ?_
                   rotate_left
                   ·intro w'
                    go_simp
                    with_reducible rfl
                   rotate_left
                   ·simp only [Act.put, List.setIfInBounds_toArray, List.set_cons_zero, List.set_cons_succ, i64_w, i32_w]
                    rfl
                   refine pure_ (i := 4) (N := some 122) (v := ?_) (a' := ?_) #[true, true, true, false, true, false, false, false, false, false, false, false, false, false, false, false, false, false, false, false, false] rfl rfl (any_of HT_.out (by kernel_rfl)) (fun _ _ _ h => h) (Or.inl ⟨by rfl, ?_⟩) ?_ ?_
                   rotate_left
                   ·intro w'
                    go_simp
                    with_reducible rfl
                   rotate_left
                   ·simp only [Act.put, List.setIfInBounds_toArray, List.set_cons_zero, List.set_cons_succ, i64_w, i32_w]
                    rfl
                   refine pure_ (i := 5) (N := some 123) (v := ?_) (a' := ?_) #[true, true, true, false, true, true, false, false, false, false, false, false, false, false, false, false, false, false, false, false, false] rfl rfl (any_of HT_.out (by kernel_rfl)) (fun _ _ _ h => h) (Or.inl ⟨by rfl, ?_⟩) ?_ ?_
                   rotate_left
                   ·intro w'
                    go_simp
                    with_reducible rfl
                   rotate_left
                   ·simp only [Act.put, List.setIfInBounds_toArray, List.set_cons_zero, List.set_cons_succ, i64_w, i32_w]
                    rfl
                   refine pure_ (i := 6) (N := some 124) (v := ?_) (a' := ?_) #[true, true, true, false, true, true, true, false, false, false, false, false, false, false, false, false, false, false, false, false, false] rfl rfl (any_of HT_.out (by kernel_rfl)) (fun _ _ _ h => h) (Or.inl ⟨by rfl, ?_⟩) ?_ ?_
                   rotate_left
                   ·intro w'
                    go_simp
                    with_reducible rfl
                   rotate_left
                   ·simp only [Act.put, List.setIfInBounds_toArray, List.set_cons_zero, List.set_cons_succ, i64_w, i32_w]
                    rfl
                   refine take_ (i := 3) (N := some 121) (v := ?_) (a' := ?_) #[true, true, true, true, true, true, true, false, false, false, false, false, false, false, false, false, false, false, false, false, false] rfl rfl (take_ofW HT_.out HW_.out (by kernel_rfl)) (fun _ _ _ h => h) (Or.inl ⟨by rfl, ?_⟩) hHeld ?_ ?_
                   rotate_left
                   ·rintro w' ⟨s0, s1, s2, s3, s4, s5, s6, s7, s8, s9⟩
                    go_simp
                    with_reducible rfl
                   rotate_left
                   ·simp only [Act.put, List.setIfInBounds_toArray, List.set_cons_zero, List.set_cons_succ, i64_w, i32_w]
                    rfl
                   refine take_ (i := 7) (N := some 125) (v := ?_) (a' := ?_) #[true, true, true, true, true, true, true, true, false, false, false, false, false, false, false, false, false, false, false, false, false] rfl rfl (take_ofW HT_.out HW_.out (by kernel_rfl)) (fun _ _ _ h => h) (Or.inl ⟨by rfl, ?_⟩) hHeld ?_ ?_
                   rotate_left
                   ·rintro w' ⟨s0, s1, s2, s3, s4, s5, s6, s7, s8, s9⟩
                    go_simp
                    with_reducible rfl
                   rotate_left
                   ·simp only [Act.put, List.setIfInBounds_toArray, List.set_cons_zero, List.set_cons_succ, i64_w, i32_w]
                    rfl
                   refine pure_ (i := 8) (N := some 126) (v := ?_) (a' := ?_) #[true, true, true, true, true, true, true, true, true, false, false, false, false, false, false, false, false, false, false, false, false] rfl rfl (any_of HT_.out (by kernel_rfl)) (fun _ _ _ h => h) (Or.inl ⟨by rfl, ?_⟩) ?_ ?_
                   rotate_left
                   ·intro w'
                    go_simp
                    with_reducible rfl
                   rotate_left
                   ·simp only [Act.put, List.setIfInBounds_toArray, List.set_cons_zero, List.set_cons_succ, i64_w, i32_w]
                    rfl
                   refine pure_ (i := 9) (N := some 127) (v := ?_) (a' := ?_) #[true, true, true, true, true, true, true, true, true, true, false, false, false, false, false, false, false, false, false, false, false] rfl rfl (any_of HT_.out (by kernel_rfl)) (fun _ _ _ h => h) (Or.inl ⟨by rfl, ?_⟩) ?_ ?_
                   rotate_left
                   ·intro w'
                    go_simp
                    with_reducible rfl
                   rotate_left
                   ·simp only [Act.put, List.setIfInBounds_toArray, List.set_cons_zero, List.set_cons_succ, i64_w, i32_w]
                    rfl
                   refine pure_ (i := 10) (N := some 128) (v := ?_) (a' := ?_) #[true, true, true, true, true, true, true, true, true, true, true, false, false, false, false, false, false, false, false, false, false] rfl rfl (any_of HT_.out (by kernel_rfl)) (fun _ _ _ h => h) (Or.inl ⟨by rfl, ?_⟩) ?_ ?_
                   rotate_left
                   ·intro w'
                    go_simp
                    with_reducible rfl
                   rotate_left
                   ·simp only [Act.put, List.setIfInBounds_toArray, List.set_cons_zero, List.set_cons_succ, i64_w, i32_w]
                    rfl
                   refine pure_ (i := 11) (N := some 129) (v := ?_) (a' := ?_) #[true, true, true, true, true, true, true, true, true, true, true, true, false, false, false, false, false, false, false, false, false] rfl rfl (any_of HT_.out (by kernel_rfl)) (fun _ _ _ h => h) (Or.inl ⟨by rfl, ?_⟩) ?_ ?_
                   rotate_left
                   ·intro w'
                    go_simp
                    with_reducible rfl
                   rotate_left
                   ·simp only [Act.put, List.setIfInBounds_toArray, List.set_cons_zero, List.set_cons_succ, i64_w, i32_w]
                    rfl
                   refine pure_ (i := 12) (N := some 130) (v := ?_) (a' := ?_) #[true, true, true, true, true, true, true, true, true, true, true, true, true, false, false, false, false, false, false, false, false] rfl rfl (any_of HT_.out (by kernel_rfl)) (fun _ _ _ h => h) (Or.inl ⟨by rfl, ?_⟩) ?_ ?_
                   rotate_left
                   ·intro w'
                    go_simp
                    with_reducible rfl
                   rotate_left
                   ·simp only [Act.put, List.setIfInBounds_toArray, List.set_cons_zero, List.set_cons_succ, i64_w, i32_w]
                    rfl
                   refine pure_ (i := 14) (N := some 132) (v := ?_) (a' := ?_) #[true, true, true, true, true, true, true, true, true, true, true, true, true, false, true, false, false, false, false, false, false] rfl rfl (any_of HT_.out (by kernel_rfl)) (fun _ _ _ h => h) (Or.inl ⟨by rfl, ?_⟩) ?_ ?_
                   rotate_left
                   ·intro w'
                    go_simp
                    with_reducible rfl
                   rotate_left
                   ·simp only [Act.put, List.setIfInBounds_toArray, List.set_cons_zero, List.set_cons_succ, i64_w, i32_w]
                    rfl
                   refine pure_ (i := 16) (N := some 134) (v := ?_) (a' := ?_) #[true, true, true, true, true, true, true, true, true, true, true, true, true, false, true, false, true, false, false, false, false] rfl rfl (any_of HT_.out (by kernel_rfl)) (fun _ _ _ h => h) (Or.inl ⟨by rfl, ?_⟩) ?_ ?_
                   rotate_left
                   ·intro w'
                    go_simp
                    with_reducible rfl
                   rotate_left
                   ·simp only [Act.put, List.setIfInBounds_toArray, List.set_cons_zero, List.set_cons_succ, i64_w, i32_w]
                    rfl
                   refine take_ (i := 13) (N := some 131) (v := ?_) (a' := ?_) #[true, true, true, true, true, true, true, true, true, true, true, true, true, true, true, false, true, false, false, false, false] rfl rfl (take_ofW HT_.out HW_.out (by kernel_rfl)) (fun _ _ _ h => h) (Or.inl ⟨by rfl, ?_⟩) hHeld ?_ ?_
                   rotate_left
                   ·rintro w' ⟨s0, s1, s2, s3, s4, s5, s6, s7, s8, s9⟩
                    go_simp
                    with_reducible rfl
                   rotate_left
                   ·simp only [Act.put, List.setIfInBounds_toArray, List.set_cons_zero, List.set_cons_succ, i64_w, i32_w]
                    rfl
                   refine take_ (i := 15) (N := some 133) (v := ?_) (a' := ?_) #[true, true, true, true, true, true, true, true, true, true, true, true, true, true, true, true, true, false, false, false, false] rfl rfl (take_ofW HT_.out HW_.out (by kernel_rfl)) (fun _ _ _ h => h) (Or.inl ⟨by rfl, ?_⟩) hHeld ?_ ?_
                   rotate_left
                   ·rintro w' ⟨s0, s1, s2, s3, s4, s5, s6, s7, s8, s9⟩
                    go_simp
                    with_reducible rfl
                   rotate_left
                   ·simp only [Act.put, List.setIfInBounds_toArray, List.set_cons_zero, List.set_cons_succ, i64_w, i32_w]
                    rfl
                   refine take_ (i := 17) (N := some 135) (v := ?_) (a' := ?_) #[true, true, true, true, true, true, true, true, true, true, true, true, true, true, true, true, true, true, false, false, false] rfl rfl (take_ofW HT_.out HW_.out (by kernel_rfl)) (fun _ _ _ h => h) (Or.inl ⟨by rfl, ?_⟩) hHeld ?_ ?_
                   rotate_left
                   ·rintro w' ⟨s0, s1, s2, s3, s4, s5, s6, s7, s8, s9⟩
                    go_simp
                    with_reducible rfl
                   rotate_left
                   ·simp only [Act.put, List.setIfInBounds_toArray, List.set_cons_zero, List.set_cons_succ, i64_w, i32_w]
                    rfl
                   refine pure_ (i := 18) (N := some 136) (v := ?_) (a' := ?_) #[true, true, true, true, true, true, true, true, true, true, true, true, true, true, true, true, true, true, true, false, false] rfl rfl (any_of HT_.out (by kernel_rfl)) (fun _ _ _ h => h) (Or.inl ⟨by rfl, ?_⟩) ?_ ?_
                   rotate_left
                   ·intro w'
                    go_simp
                    with_reducible rfl
                   rotate_left
                   ·simp only [Act.put, List.setIfInBounds_toArray, List.set_cons_zero, List.set_cons_succ, i64_w, i32_w]
                    rfl
                   refine pure_ (i := 19) (N := some 137) (v := ?_) (a' := ?_) #[true, true, true, true, true, true, true, true, true, true, true, true, true, true, true, true, true, true, true, true, false] rfl rfl (any_of HT_.out (by kernel_rfl)) (fun _ _ _ h => h) (Or.inl ⟨by rfl, ?_⟩) ?_ ?_
                   rotate_left
                   ·intro w'
                    go_simp
                    with_reducible rfl
                   rotate_left
                   ·simp only [Act.put, List.setIfInBounds_toArray, List.set_cons_zero, List.set_cons_succ, i64_w, i32_w]
                    rfl
                   refine pure_ (i := 20) (N := some 138) (v := ?_) (a' := ?_) #[true, true, true, true, true, true, true, true, true, true, true, true, true, true, true, true, true, true, true, true, true] rfl rfl (any_of HT_.out (by kernel_rfl)) (fun _ _ _ h => h) (Or.inl ⟨by rfl, ?_⟩) ?_ ?_
                   rotate_left
                   ·intro w'
                    go_simp
                    with_reducible rfl
                   rotate_left
                   ·simp only [Act.put, List.setIfInBounds_toArray, List.set_cons_zero, List.set_cons_succ, i64_w, i32_w]
                    rfl
                   refine done_ (done_of HT_.out (by kernel_rfl)) ?_
                   try go_wp2
                   go_roundg k2
                   case measure => have := HK1.out; have := HK2.out; omega
                   case rel => exact ⟨(wrap64 (x113_2 + 1)), (by first | rfl | (simp; done) | (simp [*]; done)), H', ⟨by have := HK1.out; have := HK2.out; omega⟩, ⟨by (with_reducible repeat (first | apply Kd.R_alloc | apply Kd.R_drewN | apply Kd.R_drew)); exact HO_5.out⟩, ⟨by (with_reducible repeat (first | apply Kd.R_alloc | apply Kd.R_drewN | apply Kd.R_drew)); exact HO_7.out⟩, ⟨by (with_reducible repeat (first | apply Kd.R_alloc | apply Kd.R_drewN | apply Kd.R_drew)); exact Kd.R_mono HO_111.out (fun _ hk => trivial)⟩, ⟨by (with_reducible repeat (first | apply Kd.R_alloc | apply Kd.R_drewN | apply Kd.R_drew)); exact Kd.R_mono HO_229001.out (fun _ hk => trivial)⟩, ⟨by (with_reducible repeat (first | apply blk_drewN | apply blk_drew | apply blk_alloc)); exact BK228.out⟩, ⟨by with_reducible repeat (first | exact HB.out | apply below_alloc | apply pw_below_drewN | apply below_drew1 | refine below_set ?_ GE228.out | refine below_set ?_ GE253.out)⟩⟩
                ·rw [if_neg c87] at H
                 exact absurd H (by simp)
               ·rw [if_neg c86] at H
                exact absurd H (by simp)
              ·rw [if_neg c85] at H
               exact absurd H (by simp)
             ·rw [if_neg c84] at H
              exact absurd H (by simp)
            ·rw [if_neg c83] at H
             have c83b0 : decide (x113_2 < (t225.length : Int)) = false := decide_eq_false c83
             clear c83
             by_cases c108 : 0 < (t225.length : Int)
             ·rw [if_pos c108] at H
              have c108b0 : decide (0 < (t225.length : Int)) = true := decide_eq_true c108
              have c108b1 : decide (0 < t225.length) = true := decide_eq_true (by omega)
              clear c108
              obtain rfl := Option.some.inj H
              have hcz109_0 : wr.cell? ⟨gb228, 0, none⟩ = some (.int .i64 t224) := (blk_cell BK228.out 0).trans rfl
              have hcz109_1 : wr.cell? ⟨gb228, 1, none⟩ = some (.slice (some ad240) t225.length co17) := (blk_cell BK228.out 1).trans rfl
              have hfz109_0 := blk_frozen BK228.out 0
              have hfz109_1 := blk_frozen BK228.out 1
              have p257 : 0 ≤ (0 : Int) := (by omega)
              have q257 : 0 < (t225.length : Int) := of_decide_eq_true (by assumption)
              obtain ⟨ad257, e257, hx257_0, hx257_1, hx257_2, hx257_3, hx257_4, hx257_5, hx257_6⟩ := at_T34 (Kd.R_reads' HO_229001.out).2.2 0 p257 q257
              obtain rfl : ad240 = ad257 := (by injection e257)
              have qi257 : (0 < t225.length) = True := eq_true (by omega)
              (try rw [show ((0 : Int)).toNat = 0 from rfl] at hx257_0)
              (try rw [show 0 * 7 = 0 from rfl] at hx257_0)
              (try rw [Addr.add_zero'] at hx257_0)
              (try rw [show ((0 : Int)).toNat = 0 from rfl] at hx257_1)
              (try rw [show 0 * 7 = 0 from rfl] at hx257_1)
              (try rw [Addr.add_zero'] at hx257_1)
              (try rw [show ((0 : Int)).toNat = 0 from rfl] at hx257_2)
              (try rw [show 0 * 7 = 0 from rfl] at hx257_2)
              (try rw [Addr.add_zero'] at hx257_2)
              (try rw [show ((0 : Int)).toNat = 0 from rfl] at hx257_3)
              (try rw [show 0 * 7 = 0 from rfl] at hx257_3)
              (try rw [Addr.add_zero'] at hx257_3)
              (try rw [show ((0 : Int)).toNat = 0 from rfl] at hx257_4)
              (try rw [show 0 * 7 = 0 from rfl] at hx257_4)
              (try rw [Addr.add_zero'] at hx257_4)
              (try rw [show ((0 : Int)).toNat = 0 from rfl] at hx257_5)
              (try rw [show 0 * 7 = 0 from rfl] at hx257_5)
              (try rw [Addr.add_zero'] at hx257_5)
              (try rw [show ((0 : Int)).toNat = 0 from rfl] at hx257_6)
              (try rw [show 0 * 7 = 0 from rfl] at hx257_6)
              (try rw [Addr.add_zero'] at hx257_6)
              replace p257 := eq_true p257
              replace q257 := eq_true q257
              go_wp2
              go_ret
              exact ⟨by first | rfl | (simp [bne]; done) | (simp [*] <;> rfl), by with_reducible repeat (first | exact HB.out | apply below_alloc | apply pw_below_drewN | apply below_drew1 | refine below_set ?_ GE228.out)⟩
             ·rw [if_neg c108] at H
              exact absurd H (by simp)
      ·rw [if_neg c13] at H
       exact absurd H (by simp)
     ·rw [if_neg c12] at H
      exact absurd H (by simp)
    ·rw [if_neg c11] at H
     exact absurd H (by simp)
   ·replace c10 := Bool.eq_false_iff.mpr c10
    subst c10
    have H1 : (some false) = some r := by rw [if_neg (show ¬ (false = true) by decide)] at H; exact H
    clear H
    have H := H1
    clear H1
    obtain rfl := Option.some.inj H
    go_enter Try.func3, Try.ntmps3
    go_wp2_with (first | ((with_reducible refine gate_callee (f := 4) rfl ?_); refine goesL_ (some 19) rfl rfl Try.func4 (by kernel_rfl) rfl #[.slice A0 l0.length c0] rfl (by (try simp only [List.map_toArray, List.map_cons, List.map_nil]); first | done | rfl) ?_; (with_reducible refine (spec_DrawCriticalPath.calls k _ _ l0 t224 t225 _ ?side1 ?side2 A3.out).mono ?_); (case side1 => repeat (first | exact HR0.out | (with_reducible refine Kd.C_alloc ?_ _) | (with_reducible refine Kd.C_drewN ?_ _) | (with_reducible refine Kd.C_drew ?_))); (case side2 => exact HC0.out); rintro e w110 ⟨v226, rfl, ho0, hb⟩; refine ⟨_, rfl, ?_⟩; have n0_ := Aside0.mk (Kd.R_lower ho0 (below_size (by with_reducible repeat (first | exact HB.out | apply below_alloc | apply pw_below_drewN | apply below_drew1)))); have n1_ := Aside0.mk (below_step (by with_reducible repeat (first | exact HB.out | apply below_alloc | apply pw_below_drewN | apply below_drew1)) hb); clear HB; have HO227 := n0_; have HB := n1_; clear n0_ n1_; (try clear hb); (try clear hb2); (try clear hk); (try clear hi); (try clear ho0)) | ((with_reducible refine gate_dst (N := 3) rfl ?_); (try (refine gate_guard (by rfl) ?_; dsimp only)); refine box_event ?hg (N := 3) ?hd (cs := #[.int .i64 0, .slice none 0 0]) (t := 25) ?hr ?_; (case hd => rfl); (case hg => rfl); (case hr => first | (go_simp; done) | (go_simp; rfl)); intro gb228 hg w111 hbox hb; have n0_ := Aside0.mk (Kd.R_below (by (with_reducible repeat (first | apply Kd.R_alloc | apply Kd.R_drewN | apply Kd.R_drew)); exact HO227.out) hb); have n1_ := Aside0.mk (below_step (by with_reducible repeat (first | exact HB.out | apply below_alloc | apply pw_below_drewN | apply below_drew1)) hb); have n2_ := Aside0.mk (hbox); have n3_ := Aside0.mk ((by rw [hg]; exact (below_size (by with_reducible repeat (first | exact HB.out | apply below_alloc | apply pw_below_drewN | apply below_drew1))) : w.heap.size ≤ gb228)); have n4_ := n3_; clear HO227; clear HB; have HO227 := n0_; have HB := n1_; have BK228 := n2_; have GW228 := n3_; have GE228 := n4_; clear n0_ n1_ n2_ n3_ n4_; clear hb hbox hg; have hcz112_0 : w111.cell? ⟨gb228, 0, none⟩ = some (.int .i64 0) := (blk_cell BK228.out 0).trans rfl; have hcz112_1 : w111.cell? ⟨gb228, 1, none⟩ = some (.slice none 0 0) := (blk_cell BK228.out 1).trans rfl; have hfz112_0 := blk_frozen BK228.out 0; have hfz112_1 := blk_frozen BK228.out 1; obtain ⟨Ao113, co113, eo113⟩ := Kd.R_slice HO227.out; subst eo113) | ((with_reducible refine gate_callee (f := 5) rfl ?_); refine goesL_ (some 21) rfl rfl Try.func5 (by kernel_rfl) rfl #[.agg #[.int .i64 t224, .slice Ao113 t225.length co113]] rfl (by (try simp only [List.map_toArray, List.map_cons, List.map_nil]); first | done | rfl) ?_; (with_reducible refine (impl_CriticalPath.calls k t224 _ _ t225 t229 _ ?side1 ?side2 A4.out).mono ?_); (case side1 => refine (Kd.R_reads' (e := 34) (base := w.heap.size) (ok := fun k_ => True) (n := t225.length) (c := co113) ?_).2.2; exact (by (with_reducible repeat (first | apply Kd.R_alloc | apply Kd.R_drewN | apply Kd.R_drew)); exact (Kd.R_mono (Kd.R_far (p := ⟨gb228, 1, none⟩) (Kd.R_far (p := ⟨gb228, 0, none⟩) (Kd.R_types HO227.out BK228.out (by decide)) (fun _ hk => hk.2) (.int .i64 t224)) (fun _ hk => hk.2) (.slice Ao113 t225.length co113)) (fun _ h_ => h_.1)))); (case side2 => exact (Kd.R_reads' HO227.out).2.1); rintro e w114 ⟨v230, rfl, ho0, hb⟩; refine ⟨_, rfl, ?_⟩; have n0_ := Aside0.mk (Kd.R_below (by (with_reducible repeat (first | apply Kd.R_alloc | apply Kd.R_drewN | apply Kd.R_drew)); exact (Kd.R_mono (Kd.R_far (p := ⟨gb228, 1, none⟩) (Kd.R_far (p := ⟨gb228, 0, none⟩) (Kd.R_types HO227.out BK228.out (by decide)) (fun _ hk => hk.2) (.int .i64 t224)) (fun _ hk => hk.2) (.slice Ao113 t225.length co113)) (fun _ h_ => h_.1))) hb); have n1_ := Aside0.mk (Kd.R_lower ho0 (below_size (by with_reducible repeat (first | exact HB.out | apply below_alloc | apply pw_below_drewN | apply below_drew1 | refine below_set ?_ GE228.out)))); have n2_ := Aside0.mk (blk_below (g := gb228) (o := .cells #[.int .i64 t224, .slice Ao113 t225.length co113] 25 (0, 0)) (by (with_reducible repeat (first | apply blk_drewN | apply blk_drew | apply blk_alloc)); refine blk_put (cs := #[.int .i64 t224, .slice none 0 0]) ?_ 1 _ rfl; (with_reducible repeat (first | apply blk_drewN | apply blk_drew | apply blk_alloc)); refine blk_put (cs := #[.int .i64 0, .slice none 0 0]) ?_ 0 _ rfl; (with_reducible repeat (first | apply blk_drewN | apply blk_drew | apply blk_alloc)); exact BK228.out) hb); have n3_ := Aside0.mk (below_step (by with_reducible repeat (first | exact HB.out | apply below_alloc | apply pw_below_drewN | apply below_drew1 | refine below_set ?_ GE228.out)) hb); clear HO227; clear BK228; clear HB; have HO227 := n0_; have HO231 := n1_; have BK228 := n2_; have HB := n3_; clear n0_ n1_ n2_ n3_; (try clear hb); (try clear hb2); (try clear hk); (try clear hi); (try clear ho0); have hcz115_0 : w114.cell? ⟨gb228, 0, none⟩ = some (.int .i64 t224) := (blk_cell BK228.out 0).trans rfl; have hcz115_1 : w114.cell? ⟨gb228, 1, none⟩ = some (.slice Ao113 t225.length co113) := (blk_cell BK228.out 1).trans rfl; have hfz115_0 := blk_frozen BK228.out 0; have hfz115_1 := blk_frozen BK228.out 1) | ((with_reducible refine gate_callee (f := 6) rfl ?_); refine goesL_ (some 23) rfl rfl Try.func6 (by kernel_rfl) rfl #[.agg #[.int .i64 t224, .slice Ao113 t225.length co113]] rfl (by (try simp only [List.map_toArray, List.map_cons, List.map_nil]); first | done | rfl) ?_; (with_reducible refine (impl_SelfTimes.calls k t224 _ _ t225 t232 _ ?side1 ?side2 A5.out).mono ?_); (case side1 => repeat (first | exact (Kd.R_reads' HO227.out).2.2 | (with_reducible refine Kd.C_alloc ?_ _) | (with_reducible refine Kd.C_drewN ?_ _) | (with_reducible refine Kd.C_drew ?_))); (case side2 => exact (Kd.R_reads' HO227.out).2.1); rintro e w116 ⟨v233, rfl, ho0, hb⟩; refine ⟨_, rfl, ?_⟩; have n0_ := Aside0.mk (Kd.R_below (by (with_reducible repeat (first | apply Kd.R_alloc | apply Kd.R_drewN | apply Kd.R_drew)); exact HO227.out) hb); have n1_ := Aside0.mk (Kd.R_below (by (with_reducible repeat (first | apply Kd.R_alloc | apply Kd.R_drewN | apply Kd.R_drew)); exact HO231.out) hb); have n2_ := Aside0.mk (Kd.R_lower ho0 (below_size (by with_reducible repeat (first | exact HB.out | apply below_alloc | apply pw_below_drewN | apply below_drew1 | refine below_set ?_ GE228.out)))); have n3_ := Aside0.mk (blk_below (g := gb228) (by (with_reducible repeat (first | apply blk_drewN | apply blk_drew | apply blk_alloc)); exact BK228.out) hb); have n4_ := Aside0.mk (below_step (by with_reducible repeat (first | exact HB.out | apply below_alloc | apply pw_below_drewN | apply below_drew1 | refine below_set ?_ GE228.out)) hb); clear HO227; clear HO231; clear BK228; clear HB; have HO227 := n0_; have HO231 := n1_; have HO234 := n2_; have BK228 := n3_; have HB := n4_; clear n0_ n1_ n2_ n3_ n4_; (try clear hb); (try clear hb2); (try clear hk); (try clear hi); (try clear ho0); have hcz117_0 : w116.cell? ⟨gb228, 0, none⟩ = some (.int .i64 t224) := (blk_cell BK228.out 0).trans rfl; have hcz117_1 : w116.cell? ⟨gb228, 1, none⟩ = some (.slice Ao113 t225.length co113) := (blk_cell BK228.out 1).trans rfl; have hfz117_0 := blk_frozen BK228.out 0; have hfz117_1 := blk_frozen BK228.out 1) | ((with_reducible refine gate_callee (f := 7) rfl ?_); refine goesL_ (some 25) rfl rfl Try.func7 (by kernel_rfl) rfl #[.agg #[.int .i64 t224, .slice Ao113 t225.length co113]] rfl (by (try simp only [List.map_toArray, List.map_cons, List.map_nil]); first | done | rfl) ?_; (with_reducible refine (spec_GoodTrace.calls t224 _ _ t225 true _ ?side1 ?side2 A6.out).mono ?_); (case side1 => repeat (first | exact (Kd.R_reads' HO227.out).2.2 | (with_reducible refine Kd.C_alloc ?_ _) | (with_reducible refine Kd.C_drewN ?_ _) | (with_reducible refine Kd.C_drew ?_))); (case side2 => exact (Kd.R_reads' HO227.out).2.1); rintro e w118 ⟨rfl, hb⟩; refine ⟨_, rfl, ?_⟩; have n0_ := Aside0.mk (Kd.R_below (by (with_reducible repeat (first | apply Kd.R_alloc | apply Kd.R_drewN | apply Kd.R_drew)); exact HO227.out) hb); have n1_ := Aside0.mk (Kd.R_below (by (with_reducible repeat (first | apply Kd.R_alloc | apply Kd.R_drewN | apply Kd.R_drew)); exact HO231.out) hb); have n2_ := Aside0.mk (Kd.R_below (by (with_reducible repeat (first | apply Kd.R_alloc | apply Kd.R_drewN | apply Kd.R_drew)); exact HO234.out) hb); have n3_ := Aside0.mk (blk_below (g := gb228) (by (with_reducible repeat (first | apply blk_drewN | apply blk_drew | apply blk_alloc)); exact BK228.out) hb); have n4_ := Aside0.mk (below_step (by with_reducible repeat (first | exact HB.out | apply below_alloc | apply pw_below_drewN | apply below_drew1 | refine below_set ?_ GE228.out)) hb); clear HO227; clear HO231; clear HO234; clear BK228; clear HB; have HO227 := n0_; have HO231 := n1_; have HO234 := n2_; have BK228 := n3_; have HB := n4_; clear n0_ n1_ n2_ n3_ n4_; (try clear hb); (try clear hb2); (try clear hk); (try clear hi); have hcz119_0 : w118.cell? ⟨gb228, 0, none⟩ = some (.int .i64 t224) := (blk_cell BK228.out 0).trans rfl; have hcz119_1 : w118.cell? ⟨gb228, 1, none⟩ = some (.slice Ao113 t225.length co113) := (blk_cell BK228.out 1).trans rfl; have hfz119_0 := blk_frozen BK228.out 0; have hfz119_1 := blk_frozen BK228.out 1) | ((with_reducible refine gate_callee (f := 9) rfl ?_); refine goesL_ (some 37) rfl rfl Try.func9 (by kernel_rfl) rfl #[.agg #[.int .i64 t224, .slice Ao113 t225.length co113]] rfl (by (try simp only [List.map_toArray, List.map_cons, List.map_nil]); first | done | rfl) ?_; (with_reducible refine (spec_SelfTimes.calls k t224 _ _ t225 t236 _ ?side1 ?side2 A8.out).mono ?_); (case side1 => repeat (first | exact (Kd.R_reads' HO227.out).2.2 | (with_reducible refine Kd.C_alloc ?_ _) | (with_reducible refine Kd.C_drewN ?_ _) | (with_reducible refine Kd.C_drew ?_))); (case side2 => exact (Kd.R_reads' HO227.out).2.1); rintro e w120 ⟨v237, rfl, ho0, hb⟩; refine ⟨_, rfl, ?_⟩; have n0_ := Aside0.mk (Kd.R_below (by (with_reducible repeat (first | apply Kd.R_alloc | apply Kd.R_drewN | apply Kd.R_drew)); exact HO227.out) hb); have n1_ := Aside0.mk (Kd.R_below (by (with_reducible repeat (first | apply Kd.R_alloc | apply Kd.R_drewN | apply Kd.R_drew)); exact HO231.out) hb); have n2_ := Aside0.mk (Kd.R_elder' (by (with_reducible repeat (first | apply Kd.R_alloc | apply Kd.R_drewN | apply Kd.R_drew)); exact HO234.out) (Kd.R_base ho0) hb); have n3_ := Aside0.mk (Kd.R_lower (Kd.R_new' ho0 (Kd.R_lt (by (with_reducible repeat (first | apply Kd.R_alloc | apply Kd.R_drewN | apply Kd.R_drew)); exact HO234.out))) (below_size (by with_reducible repeat (first | exact HB.out | apply below_alloc | apply pw_below_drewN | apply below_drew1 | refine below_set ?_ GE228.out)))); have n4_ := Aside0.mk (blk_below (g := gb228) (by (with_reducible repeat (first | apply blk_drewN | apply blk_drew | apply blk_alloc)); exact BK228.out) hb); have n5_ := Aside0.mk (below_step (by with_reducible repeat (first | exact HB.out | apply below_alloc | apply pw_below_drewN | apply below_drew1 | refine below_set ?_ GE228.out)) hb); clear HO227; clear HO231; clear HO234; clear BK228; clear HB; have HO227 := n0_; have HO231 := n1_; have HO234 := n2_; have HO238 := n3_; have BK228 := n4_; have HB := n5_; clear n0_ n1_ n2_ n3_ n4_ n5_; (try clear hb); (try clear hb2); (try clear hk); (try clear hi); (try clear ho0); obtain ⟨Ao121, co121, eo121⟩ := Kd.R_slice HO234.out; subst eo121; obtain ⟨Ao122, co122, eo122⟩ := Kd.R_slice HO238.out; subst eo122) | ((with_reducible refine gate_callee (f := 8) rfl ?_); refine goesL_ (some 38) rfl rfl Try.func8 (by kernel_rfl) rfl #[.slice Ao121 t232.length co121, .slice Ao122 t236.length co122] rfl (by (try simp only [List.map_toArray, List.map_cons, List.map_nil]); first | done | rfl) ?_; (with_reducible refine (laws_zInts.calls k _ _ t232 _ _ t236 false _ ?side1 ?side2 ?side3 ?side4 A9.out).mono ?_); (case side1 => repeat (first | exact (Kd.R_reads' HO234.out).2.2 | (with_reducible refine Kd.C_alloc ?_ _) | (with_reducible refine Kd.C_drewN ?_ _) | (with_reducible refine Kd.C_drew ?_))); (case side2 => exact (Kd.R_reads' HO234.out).2.1); (case side3 => repeat (first | exact (Kd.R_reads' HO238.out).2.2 | (with_reducible refine Kd.C_alloc ?_ _) | (with_reducible refine Kd.C_drewN ?_ _) | (with_reducible refine Kd.C_drew ?_))); (case side4 => exact (Kd.R_reads' HO238.out).2.1); rintro e w' ⟨rfl, ⟨nd, rfl⟩⟩; refine ⟨_, rfl, ?_⟩))
    go_ret
    exact ⟨by first | rfl | (simp [bne]; done) | (simp [*] <;> rfl), by with_reducible repeat (first | exact HB.out | apply below_alloc | apply pw_below_drewN | apply below_drew1 | refine below_set ?_ GE228.out)⟩
  ·replace c7 := Bool.eq_false_iff.mpr c7
   subst c7
   have H1 : (if (t229.length : Int) = 0 then (some ((t232.length : Int) == 0)) else (some false)) = some r := by rw [if_neg (show ¬ (false = true) by decide)] at H; exact H
   clear H
   have H := H1
   clear H1
   by_cases c123 : (t229.length : Int) = 0
   ·rw [if_pos c123] at H
    have c123b0 : ((t229.length : Int) == 0) = true := beq_iff_eq.mpr c123
    have c123b1 : ((t229.length : Int) != 0) = false := bne_eq_false_iff_eq.mpr c123
    clear c123
    obtain rfl := Option.some.inj H
    go_enter Try.func3, Try.ntmps3
    go_wp2_with (first | ((with_reducible refine gate_callee (f := 4) rfl ?_); refine goesL_ (some 19) rfl rfl Try.func4 (by kernel_rfl) rfl #[.slice A0 l0.length c0] rfl (by (try simp only [List.map_toArray, List.map_cons, List.map_nil]); first | done | rfl) ?_; (with_reducible refine (spec_DrawCriticalPath.calls k _ _ l0 t224 t225 _ ?side1 ?side2 A3.out).mono ?_); (case side1 => repeat (first | exact HR0.out | (with_reducible refine Kd.C_alloc ?_ _) | (with_reducible refine Kd.C_drewN ?_ _) | (with_reducible refine Kd.C_drew ?_))); (case side2 => exact HC0.out); rintro e w124 ⟨v226, rfl, ho0, hb⟩; refine ⟨_, rfl, ?_⟩; have n0_ := Aside0.mk (Kd.R_lower ho0 (below_size (by with_reducible repeat (first | exact HB.out | apply below_alloc | apply pw_below_drewN | apply below_drew1)))); have n1_ := Aside0.mk (below_step (by with_reducible repeat (first | exact HB.out | apply below_alloc | apply pw_below_drewN | apply below_drew1)) hb); clear HB; have HO227 := n0_; have HB := n1_; clear n0_ n1_; (try clear hb); (try clear hb2); (try clear hk); (try clear hi); (try clear ho0)) | ((with_reducible refine gate_dst (N := 3) rfl ?_); (try (refine gate_guard (by rfl) ?_; dsimp only)); refine box_event ?hg (N := 3) ?hd (cs := #[.int .i64 0, .slice none 0 0]) (t := 25) ?hr ?_; (case hd => rfl); (case hg => rfl); (case hr => first | (go_simp; done) | (go_simp; rfl)); intro gb228 hg w125 hbox hb; have n0_ := Aside0.mk (Kd.R_below (by (with_reducible repeat (first | apply Kd.R_alloc | apply Kd.R_drewN | apply Kd.R_drew)); exact HO227.out) hb); have n1_ := Aside0.mk (below_step (by with_reducible repeat (first | exact HB.out | apply below_alloc | apply pw_below_drewN | apply below_drew1)) hb); have n2_ := Aside0.mk (hbox); have n3_ := Aside0.mk ((by rw [hg]; exact (below_size (by with_reducible repeat (first | exact HB.out | apply below_alloc | apply pw_below_drewN | apply below_drew1))) : w.heap.size ≤ gb228)); have n4_ := n3_; clear HO227; clear HB; have HO227 := n0_; have HB := n1_; have BK228 := n2_; have GW228 := n3_; have GE228 := n4_; clear n0_ n1_ n2_ n3_ n4_; clear hb hbox hg; have hcz126_0 : w125.cell? ⟨gb228, 0, none⟩ = some (.int .i64 0) := (blk_cell BK228.out 0).trans rfl; have hcz126_1 : w125.cell? ⟨gb228, 1, none⟩ = some (.slice none 0 0) := (blk_cell BK228.out 1).trans rfl; have hfz126_0 := blk_frozen BK228.out 0; have hfz126_1 := blk_frozen BK228.out 1; obtain ⟨Ao127, co127, eo127⟩ := Kd.R_slice HO227.out; subst eo127) | ((with_reducible refine gate_callee (f := 5) rfl ?_); refine goesL_ (some 21) rfl rfl Try.func5 (by kernel_rfl) rfl #[.agg #[.int .i64 t224, .slice Ao127 t225.length co127]] rfl (by (try simp only [List.map_toArray, List.map_cons, List.map_nil]); first | done | rfl) ?_; (with_reducible refine (impl_CriticalPath.calls k t224 _ _ t225 t229 _ ?side1 ?side2 A4.out).mono ?_); (case side1 => refine (Kd.R_reads' (e := 34) (base := w.heap.size) (ok := fun k_ => True) (n := t225.length) (c := co127) ?_).2.2; exact (by (with_reducible repeat (first | apply Kd.R_alloc | apply Kd.R_drewN | apply Kd.R_drew)); exact (Kd.R_mono (Kd.R_far (p := ⟨gb228, 1, none⟩) (Kd.R_far (p := ⟨gb228, 0, none⟩) (Kd.R_types HO227.out BK228.out (by decide)) (fun _ hk => hk.2) (.int .i64 t224)) (fun _ hk => hk.2) (.slice Ao127 t225.length co127)) (fun _ h_ => h_.1)))); (case side2 => exact (Kd.R_reads' HO227.out).2.1); rintro e w128 ⟨v230, rfl, ho0, hb⟩; refine ⟨_, rfl, ?_⟩; have n0_ := Aside0.mk (Kd.R_below (by (with_reducible repeat (first | apply Kd.R_alloc | apply Kd.R_drewN | apply Kd.R_drew)); exact (Kd.R_mono (Kd.R_far (p := ⟨gb228, 1, none⟩) (Kd.R_far (p := ⟨gb228, 0, none⟩) (Kd.R_types HO227.out BK228.out (by decide)) (fun _ hk => hk.2) (.int .i64 t224)) (fun _ hk => hk.2) (.slice Ao127 t225.length co127)) (fun _ h_ => h_.1))) hb); have n1_ := Aside0.mk (Kd.R_lower ho0 (below_size (by with_reducible repeat (first | exact HB.out | apply below_alloc | apply pw_below_drewN | apply below_drew1 | refine below_set ?_ GE228.out)))); have n2_ := Aside0.mk (blk_below (g := gb228) (o := .cells #[.int .i64 t224, .slice Ao127 t225.length co127] 25 (0, 0)) (by (with_reducible repeat (first | apply blk_drewN | apply blk_drew | apply blk_alloc)); refine blk_put (cs := #[.int .i64 t224, .slice none 0 0]) ?_ 1 _ rfl; (with_reducible repeat (first | apply blk_drewN | apply blk_drew | apply blk_alloc)); refine blk_put (cs := #[.int .i64 0, .slice none 0 0]) ?_ 0 _ rfl; (with_reducible repeat (first | apply blk_drewN | apply blk_drew | apply blk_alloc)); exact BK228.out) hb); have n3_ := Aside0.mk (below_step (by with_reducible repeat (first | exact HB.out | apply below_alloc | apply pw_below_drewN | apply below_drew1 | refine below_set ?_ GE228.out)) hb); clear HO227; clear BK228; clear HB; have HO227 := n0_; have HO231 := n1_; have BK228 := n2_; have HB := n3_; clear n0_ n1_ n2_ n3_; (try clear hb); (try clear hb2); (try clear hk); (try clear hi); (try clear ho0); have hcz129_0 : w128.cell? ⟨gb228, 0, none⟩ = some (.int .i64 t224) := (blk_cell BK228.out 0).trans rfl; have hcz129_1 : w128.cell? ⟨gb228, 1, none⟩ = some (.slice Ao127 t225.length co127) := (blk_cell BK228.out 1).trans rfl; have hfz129_0 := blk_frozen BK228.out 0; have hfz129_1 := blk_frozen BK228.out 1) | ((with_reducible refine gate_callee (f := 6) rfl ?_); refine goesL_ (some 23) rfl rfl Try.func6 (by kernel_rfl) rfl #[.agg #[.int .i64 t224, .slice Ao127 t225.length co127]] rfl (by (try simp only [List.map_toArray, List.map_cons, List.map_nil]); first | done | rfl) ?_; (with_reducible refine (impl_SelfTimes.calls k t224 _ _ t225 t232 _ ?side1 ?side2 A5.out).mono ?_); (case side1 => repeat (first | exact (Kd.R_reads' HO227.out).2.2 | (with_reducible refine Kd.C_alloc ?_ _) | (with_reducible refine Kd.C_drewN ?_ _) | (with_reducible refine Kd.C_drew ?_))); (case side2 => exact (Kd.R_reads' HO227.out).2.1); rintro e w130 ⟨v233, rfl, ho0, hb⟩; refine ⟨_, rfl, ?_⟩; have n0_ := Aside0.mk (Kd.R_below (by (with_reducible repeat (first | apply Kd.R_alloc | apply Kd.R_drewN | apply Kd.R_drew)); exact HO227.out) hb); have n1_ := Aside0.mk (Kd.R_below (by (with_reducible repeat (first | apply Kd.R_alloc | apply Kd.R_drewN | apply Kd.R_drew)); exact HO231.out) hb); have n2_ := Aside0.mk (Kd.R_lower ho0 (below_size (by with_reducible repeat (first | exact HB.out | apply below_alloc | apply pw_below_drewN | apply below_drew1 | refine below_set ?_ GE228.out)))); have n3_ := Aside0.mk (blk_below (g := gb228) (by (with_reducible repeat (first | apply blk_drewN | apply blk_drew | apply blk_alloc)); exact BK228.out) hb); have n4_ := Aside0.mk (below_step (by with_reducible repeat (first | exact HB.out | apply below_alloc | apply pw_below_drewN | apply below_drew1 | refine below_set ?_ GE228.out)) hb); clear HO227; clear HO231; clear BK228; clear HB; have HO227 := n0_; have HO231 := n1_; have HO234 := n2_; have BK228 := n3_; have HB := n4_; clear n0_ n1_ n2_ n3_ n4_; (try clear hb); (try clear hb2); (try clear hk); (try clear hi); (try clear ho0); have hcz131_0 : w130.cell? ⟨gb228, 0, none⟩ = some (.int .i64 t224) := (blk_cell BK228.out 0).trans rfl; have hcz131_1 : w130.cell? ⟨gb228, 1, none⟩ = some (.slice Ao127 t225.length co127) := (blk_cell BK228.out 1).trans rfl; have hfz131_0 := blk_frozen BK228.out 0; have hfz131_1 := blk_frozen BK228.out 1) | ((with_reducible refine gate_callee (f := 7) rfl ?_); refine goesL_ (some 25) rfl rfl Try.func7 (by kernel_rfl) rfl #[.agg #[.int .i64 t224, .slice Ao127 t225.length co127]] rfl (by (try simp only [List.map_toArray, List.map_cons, List.map_nil]); first | done | rfl) ?_; (with_reducible refine (spec_GoodTrace.calls t224 _ _ t225 false _ ?side1 ?side2 A6.out).mono ?_); (case side1 => repeat (first | exact (Kd.R_reads' HO227.out).2.2 | (with_reducible refine Kd.C_alloc ?_ _) | (with_reducible refine Kd.C_drewN ?_ _) | (with_reducible refine Kd.C_drew ?_))); (case side2 => exact (Kd.R_reads' HO227.out).2.1); rintro e w132 ⟨rfl, hb⟩; refine ⟨_, rfl, ?_⟩; have n0_ := Aside0.mk (Kd.R_below (by (with_reducible repeat (first | apply Kd.R_alloc | apply Kd.R_drewN | apply Kd.R_drew)); exact HO227.out) hb); have n1_ := Aside0.mk (Kd.R_below (by (with_reducible repeat (first | apply Kd.R_alloc | apply Kd.R_drewN | apply Kd.R_drew)); exact HO231.out) hb); have n2_ := Aside0.mk (Kd.R_below (by (with_reducible repeat (first | apply Kd.R_alloc | apply Kd.R_drewN | apply Kd.R_drew)); exact HO234.out) hb); have n3_ := Aside0.mk (blk_below (g := gb228) (by (with_reducible repeat (first | apply blk_drewN | apply blk_drew | apply blk_alloc)); exact BK228.out) hb); have n4_ := Aside0.mk (below_step (by with_reducible repeat (first | exact HB.out | apply below_alloc | apply pw_below_drewN | apply below_drew1 | refine below_set ?_ GE228.out)) hb); clear HO227; clear HO231; clear HO234; clear BK228; clear HB; have HO227 := n0_; have HO231 := n1_; have HO234 := n2_; have BK228 := n3_; have HB := n4_; clear n0_ n1_ n2_ n3_ n4_; (try clear hb); (try clear hb2); (try clear hk); (try clear hi); obtain ⟨Ao133, co133, eo133⟩ := Kd.R_slice HO231.out; subst eo133; obtain ⟨Ao134, co134, eo134⟩ := Kd.R_slice HO234.out; subst eo134))
    go_ret
    exact ⟨by first | rfl | (simp [bne]; done) | (simp [*] <;> rfl), by with_reducible repeat (first | exact HB.out | apply below_alloc | apply pw_below_drewN | apply below_drew1 | refine below_set ?_ GE228.out)⟩
   ·rw [if_neg c123] at H
    have c123b0 : ((t229.length : Int) == 0) = false := beq_eq_false_iff_ne.mpr c123
    have c123b1 : ((t229.length : Int) != 0) = true := bne_iff_ne.mpr c123
    have c123b2 : ¬ (t229 = []) := fun h_ => c123 (by rw [h_]; rfl)
    obtain rfl := Option.some.inj H
    go_enter Try.func3, Try.ntmps3
    go_wp2_with (first | ((with_reducible refine gate_callee (f := 4) rfl ?_); refine goesL_ (some 19) rfl rfl Try.func4 (by kernel_rfl) rfl #[.slice A0 l0.length c0] rfl (by (try simp only [List.map_toArray, List.map_cons, List.map_nil]); first | done | rfl) ?_; (with_reducible refine (spec_DrawCriticalPath.calls k _ _ l0 t224 t225 _ ?side1 ?side2 A3.out).mono ?_); (case side1 => repeat (first | exact HR0.out | (with_reducible refine Kd.C_alloc ?_ _) | (with_reducible refine Kd.C_drewN ?_ _) | (with_reducible refine Kd.C_drew ?_))); (case side2 => exact HC0.out); rintro e w135 ⟨v226, rfl, ho0, hb⟩; refine ⟨_, rfl, ?_⟩; have n0_ := Aside0.mk (Kd.R_lower ho0 (below_size (by with_reducible repeat (first | exact HB.out | apply below_alloc | apply pw_below_drewN | apply below_drew1)))); have n1_ := Aside0.mk (below_step (by with_reducible repeat (first | exact HB.out | apply below_alloc | apply pw_below_drewN | apply below_drew1)) hb); clear HB; have HO227 := n0_; have HB := n1_; clear n0_ n1_; (try clear hb); (try clear hb2); (try clear hk); (try clear hi); (try clear ho0)) | ((with_reducible refine gate_dst (N := 3) rfl ?_); (try (refine gate_guard (by rfl) ?_; dsimp only)); refine box_event ?hg (N := 3) ?hd (cs := #[.int .i64 0, .slice none 0 0]) (t := 25) ?hr ?_; (case hd => rfl); (case hg => rfl); (case hr => first | (go_simp; done) | (go_simp; rfl)); intro gb228 hg w136 hbox hb; have n0_ := Aside0.mk (Kd.R_below (by (with_reducible repeat (first | apply Kd.R_alloc | apply Kd.R_drewN | apply Kd.R_drew)); exact HO227.out) hb); have n1_ := Aside0.mk (below_step (by with_reducible repeat (first | exact HB.out | apply below_alloc | apply pw_below_drewN | apply below_drew1)) hb); have n2_ := Aside0.mk (hbox); have n3_ := Aside0.mk ((by rw [hg]; exact (below_size (by with_reducible repeat (first | exact HB.out | apply below_alloc | apply pw_below_drewN | apply below_drew1))) : w.heap.size ≤ gb228)); have n4_ := n3_; clear HO227; clear HB; have HO227 := n0_; have HB := n1_; have BK228 := n2_; have GW228 := n3_; have GE228 := n4_; clear n0_ n1_ n2_ n3_ n4_; clear hb hbox hg; have hcz137_0 : w136.cell? ⟨gb228, 0, none⟩ = some (.int .i64 0) := (blk_cell BK228.out 0).trans rfl; have hcz137_1 : w136.cell? ⟨gb228, 1, none⟩ = some (.slice none 0 0) := (blk_cell BK228.out 1).trans rfl; have hfz137_0 := blk_frozen BK228.out 0; have hfz137_1 := blk_frozen BK228.out 1; obtain ⟨Ao138, co138, eo138⟩ := Kd.R_slice HO227.out; subst eo138) | ((with_reducible refine gate_callee (f := 5) rfl ?_); refine goesL_ (some 21) rfl rfl Try.func5 (by kernel_rfl) rfl #[.agg #[.int .i64 t224, .slice Ao138 t225.length co138]] rfl (by (try simp only [List.map_toArray, List.map_cons, List.map_nil]); first | done | rfl) ?_; (with_reducible refine (impl_CriticalPath.calls k t224 _ _ t225 t229 _ ?side1 ?side2 A4.out).mono ?_); (case side1 => refine (Kd.R_reads' (e := 34) (base := w.heap.size) (ok := fun k_ => True) (n := t225.length) (c := co138) ?_).2.2; exact (by (with_reducible repeat (first | apply Kd.R_alloc | apply Kd.R_drewN | apply Kd.R_drew)); exact (Kd.R_mono (Kd.R_far (p := ⟨gb228, 1, none⟩) (Kd.R_far (p := ⟨gb228, 0, none⟩) (Kd.R_types HO227.out BK228.out (by decide)) (fun _ hk => hk.2) (.int .i64 t224)) (fun _ hk => hk.2) (.slice Ao138 t225.length co138)) (fun _ h_ => h_.1)))); (case side2 => exact (Kd.R_reads' HO227.out).2.1); rintro e w139 ⟨v230, rfl, ho0, hb⟩; refine ⟨_, rfl, ?_⟩; have n0_ := Aside0.mk (Kd.R_below (by (with_reducible repeat (first | apply Kd.R_alloc | apply Kd.R_drewN | apply Kd.R_drew)); exact (Kd.R_mono (Kd.R_far (p := ⟨gb228, 1, none⟩) (Kd.R_far (p := ⟨gb228, 0, none⟩) (Kd.R_types HO227.out BK228.out (by decide)) (fun _ hk => hk.2) (.int .i64 t224)) (fun _ hk => hk.2) (.slice Ao138 t225.length co138)) (fun _ h_ => h_.1))) hb); have n1_ := Aside0.mk (Kd.R_lower ho0 (below_size (by with_reducible repeat (first | exact HB.out | apply below_alloc | apply pw_below_drewN | apply below_drew1 | refine below_set ?_ GE228.out)))); have n2_ := Aside0.mk (blk_below (g := gb228) (o := .cells #[.int .i64 t224, .slice Ao138 t225.length co138] 25 (0, 0)) (by (with_reducible repeat (first | apply blk_drewN | apply blk_drew | apply blk_alloc)); refine blk_put (cs := #[.int .i64 t224, .slice none 0 0]) ?_ 1 _ rfl; (with_reducible repeat (first | apply blk_drewN | apply blk_drew | apply blk_alloc)); refine blk_put (cs := #[.int .i64 0, .slice none 0 0]) ?_ 0 _ rfl; (with_reducible repeat (first | apply blk_drewN | apply blk_drew | apply blk_alloc)); exact BK228.out) hb); have n3_ := Aside0.mk (below_step (by with_reducible repeat (first | exact HB.out | apply below_alloc | apply pw_below_drewN | apply below_drew1 | refine below_set ?_ GE228.out)) hb); clear HO227; clear BK228; clear HB; have HO227 := n0_; have HO231 := n1_; have BK228 := n2_; have HB := n3_; clear n0_ n1_ n2_ n3_; (try clear hb); (try clear hb2); (try clear hk); (try clear hi); (try clear ho0); have hcz140_0 : w139.cell? ⟨gb228, 0, none⟩ = some (.int .i64 t224) := (blk_cell BK228.out 0).trans rfl; have hcz140_1 : w139.cell? ⟨gb228, 1, none⟩ = some (.slice Ao138 t225.length co138) := (blk_cell BK228.out 1).trans rfl; have hfz140_0 := blk_frozen BK228.out 0; have hfz140_1 := blk_frozen BK228.out 1) | ((with_reducible refine gate_callee (f := 6) rfl ?_); refine goesL_ (some 23) rfl rfl Try.func6 (by kernel_rfl) rfl #[.agg #[.int .i64 t224, .slice Ao138 t225.length co138]] rfl (by (try simp only [List.map_toArray, List.map_cons, List.map_nil]); first | done | rfl) ?_; (with_reducible refine (impl_SelfTimes.calls k t224 _ _ t225 t232 _ ?side1 ?side2 A5.out).mono ?_); (case side1 => repeat (first | exact (Kd.R_reads' HO227.out).2.2 | (with_reducible refine Kd.C_alloc ?_ _) | (with_reducible refine Kd.C_drewN ?_ _) | (with_reducible refine Kd.C_drew ?_))); (case side2 => exact (Kd.R_reads' HO227.out).2.1); rintro e w141 ⟨v233, rfl, ho0, hb⟩; refine ⟨_, rfl, ?_⟩; have n0_ := Aside0.mk (Kd.R_below (by (with_reducible repeat (first | apply Kd.R_alloc | apply Kd.R_drewN | apply Kd.R_drew)); exact HO227.out) hb); have n1_ := Aside0.mk (Kd.R_below (by (with_reducible repeat (first | apply Kd.R_alloc | apply Kd.R_drewN | apply Kd.R_drew)); exact HO231.out) hb); have n2_ := Aside0.mk (Kd.R_lower ho0 (below_size (by with_reducible repeat (first | exact HB.out | apply below_alloc | apply pw_below_drewN | apply below_drew1 | refine below_set ?_ GE228.out)))); have n3_ := Aside0.mk (blk_below (g := gb228) (by (with_reducible repeat (first | apply blk_drewN | apply blk_drew | apply blk_alloc)); exact BK228.out) hb); have n4_ := Aside0.mk (below_step (by with_reducible repeat (first | exact HB.out | apply below_alloc | apply pw_below_drewN | apply below_drew1 | refine below_set ?_ GE228.out)) hb); clear HO227; clear HO231; clear BK228; clear HB; have HO227 := n0_; have HO231 := n1_; have HO234 := n2_; have BK228 := n3_; have HB := n4_; clear n0_ n1_ n2_ n3_ n4_; (try clear hb); (try clear hb2); (try clear hk); (try clear hi); (try clear ho0); have hcz142_0 : w141.cell? ⟨gb228, 0, none⟩ = some (.int .i64 t224) := (blk_cell BK228.out 0).trans rfl; have hcz142_1 : w141.cell? ⟨gb228, 1, none⟩ = some (.slice Ao138 t225.length co138) := (blk_cell BK228.out 1).trans rfl; have hfz142_0 := blk_frozen BK228.out 0; have hfz142_1 := blk_frozen BK228.out 1) | ((with_reducible refine gate_callee (f := 7) rfl ?_); refine goesL_ (some 25) rfl rfl Try.func7 (by kernel_rfl) rfl #[.agg #[.int .i64 t224, .slice Ao138 t225.length co138]] rfl (by (try simp only [List.map_toArray, List.map_cons, List.map_nil]); first | done | rfl) ?_; (with_reducible refine (spec_GoodTrace.calls t224 _ _ t225 false _ ?side1 ?side2 A6.out).mono ?_); (case side1 => repeat (first | exact (Kd.R_reads' HO227.out).2.2 | (with_reducible refine Kd.C_alloc ?_ _) | (with_reducible refine Kd.C_drewN ?_ _) | (with_reducible refine Kd.C_drew ?_))); (case side2 => exact (Kd.R_reads' HO227.out).2.1); rintro e w143 ⟨rfl, hb⟩; refine ⟨_, rfl, ?_⟩; have n0_ := Aside0.mk (Kd.R_below (by (with_reducible repeat (first | apply Kd.R_alloc | apply Kd.R_drewN | apply Kd.R_drew)); exact HO227.out) hb); have n1_ := Aside0.mk (Kd.R_below (by (with_reducible repeat (first | apply Kd.R_alloc | apply Kd.R_drewN | apply Kd.R_drew)); exact HO231.out) hb); have n2_ := Aside0.mk (Kd.R_below (by (with_reducible repeat (first | apply Kd.R_alloc | apply Kd.R_drewN | apply Kd.R_drew)); exact HO234.out) hb); have n3_ := Aside0.mk (blk_below (g := gb228) (by (with_reducible repeat (first | apply blk_drewN | apply blk_drew | apply blk_alloc)); exact BK228.out) hb); have n4_ := Aside0.mk (below_step (by with_reducible repeat (first | exact HB.out | apply below_alloc | apply pw_below_drewN | apply below_drew1 | refine below_set ?_ GE228.out)) hb); clear HO227; clear HO231; clear HO234; clear BK228; clear HB; have HO227 := n0_; have HO231 := n1_; have HO234 := n2_; have BK228 := n3_; have HB := n4_; clear n0_ n1_ n2_ n3_ n4_; (try clear hb); (try clear hb2); (try clear hk); (try clear hi); obtain ⟨Ao144, co144, eo144⟩ := Kd.R_slice HO231.out; subst eo144))
    go_ret
    exact ⟨by first | rfl | (simp [bne]; done) | (simp [*] <;> rfl), by with_reducible repeat (first | exact HB.out | apply below_alloc | apply pw_below_drewN | apply below_drew1 | refine below_set ?_ GE228.out)⟩

/-- THE ONE PURE STATEMENT of laws_FnCritical: yours. -/
def laws_FnCritical.Pure : Prop := ∀ (l0 : List Int), l0.length ≤ maxLen → l0.length * 1 ≤ 140737488351232 → (∀ x ∈ l0, (Lit.int .u8 x).wf = true) → ∃ k, laws_FnCritical.f k l0 = some true
theorem laws_FnCritical.walk (P : laws_FnCritical.Pure) (a0 : Option Addr) (len0 cap0 : Nat) (z0 : List Int) (w : World) (w0 : (a0 = none ∧ len0 = 0 ∧ cap0 = 0 ∧ z0 = []) ∨ ∃ x, a0 = some x ∧ len0 ≤ cap0 ∧ cap0 ≤ maxLen ∧ z0.length = cap0 ∧ (∀ i, i < z0.length → w.cell? (x.add i) = some (.int .u8 (z0.getD i 0))) ∧ ∀ n ∈ z0, (Lit.int .u8 n).wf = true) (y0 : len0 * 1 ≤ 140737488351232) :
  Calls Try.prog 3 #[.slice a0 len0 cap0] w fun e w' => e = .returned (.bool true) ∧ Below w.heap.size w w' := by
 obtain ⟨l0, rfl, hr0, hm0, hw0, hc0⟩ := ReadsInt.ofRowC w0
 obtain ⟨k, h⟩ := P l0 hm0 y0 hw0
 refine (laws_FnCritical.calls k _ _ l0 true w (Kd.C_of_reads (d := (0 : Int)) (h1 := fun _ => rfl) hr0) hc0 h).mono ?_
 rintro e w' ⟨rfl, hd⟩
 exact ⟨rfl, hd⟩

end Go.Proofs.Ytalhphclogbpnaa.PFnCritical
