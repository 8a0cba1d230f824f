-- Written by a program of this repo (myprint: the kit's print with functions given by hand).
import Derived.Test.YtkehglgehbfcmaaPFnExactSelfTimesx0
import Derived.Test.YtkehglgehbfcmaaPFnExactSelfTimesx2
import Derived.Test.YtkehglgehbfcmaaHSpecTrace
namespace Go.Proofs.Ytkehglgehbfcmaa.PFnExactSelfTimes
attribute [local go_sem] Go.Proofs.Ytkehglgehbfcmaa.Cmp.str_gtr Go.Proofs.Ytkehglgehbfcmaa.Cmp.str_geq Go.Proofs.Ytkehglgehbfcmaa.Cmp.str_leq
open Go.RowKit Go.Proofs.YtkehglgehbfcmaaW.PrintWords Go.Proofs.YtkehglgehbfcmaaW.PrintLast Go.Proofs.YtkehglgehbfcmaaW.PrintMore
attribute [local go_sem] max2_int min2_int max_two min_two max_three min_three max_four min_four   -- for this text's walks alone
set_option linter.unusedVariables false
set_option linter.unusedSimpArgs false

/-! ### spec_SelfTimes: function 5 -/
mutual
def spec_SelfTimes.l0 : Nat → List Int → List (S40) → Int → Int → Int → List (S40) → Option (List Int)
  | 0, _, _, _, _, _, _ => none
  | k + 1, x3, x19, x20, x21, x121000, x121001 => if x21 < x20 then (if 0 ≤ x21 then (if x21 < (x19.length : Int) then (spec_SelfTimes.l1 k x3 (([(⟨(rd_T40 x19 x21).f4, (rd_T40 x19 x21).f5⟩ : S42)] : List (S42))) x19 x20 x21 x121001 (x121001.length : Int) 0 x121000 x121001 ((rd_T40 x19 x21).f0) ((rd_T40 x19 x21).f1) ((rd_T40 x19 x21).f2) ((rd_T40 x19 x21).f3) ((rd_T40 x19 x21).f4) ((rd_T40 x19 x21).f5) ((rd_T40 x19 x21).f6)) else (none)) else (none)) else (some x3)
def spec_SelfTimes.l1 : Nat → List Int → List (S42) → List (S40) → Int → Int → List (S40) → Int → Int → Int → List (S40) → Int → Int → ByteArray → ByteArray → Int → Int → Bool → Option (List Int)
  | 0, _, _, _, _, _, _, _, _, _, _, _, _, _, _, _, _, _ => none
  | k + 1, x3, x6, x19, x20, x21, x32, x33, x34, x121000, x121001, x124000, x124001, x124002, x124003, x124004, x124005, x124006 => if x34 < x33 then (if 0 ≤ x34 then (if x34 < (x32.length : Int) then (if ((rd_T40 x32 x34).f1) = x124000 then (spec_SelfTimes.l2 k x3 ([] : List (S42)) x19 x20 x21 x32 x33 x34 x6 (x6.length : Int) 0 x121000 x121001 x124000 x124001 x124002 x124003 x124004 x124005 x124006 ((rd_T40 x32 x34).f0) ((rd_T40 x32 x34).f1) ((rd_T40 x32 x34).f2) ((rd_T40 x32 x34).f3) ((rd_T40 x32 x34).f4) ((rd_T40 x32 x34).f5) ((rd_T40 x32 x34).f6)) else (spec_SelfTimes.l1 k x3 x6 x19 x20 x21 x32 x33 (wrap64 (x34 + 1)) x121000 x121001 x124000 x124001 x124002 x124003 x124004 x124005 x124006)) else (none)) else (none)) else (spec_SelfTimes.l3 k x3 0 x19 x20 x21 x6 (x6.length : Int) 0 x121000 x121001)
def spec_SelfTimes.l2 : Nat → List Int → List (S42) → List (S40) → Int → Int → List (S40) → Int → Int → List (S42) → Int → Int → Int → List (S40) → Int → Int → ByteArray → ByteArray → Int → Int → Bool → Int → Int → ByteArray → ByteArray → Int → Int → Bool → Option (List Int)
  | 0, _, _, _, _, _, _, _, _, _, _, _, _, _, _, _, _, _, _, _, _, _, _, _, _, _, _, _ => none
  | k + 1, x3, x9, x19, x20, x21, x32, x33, x34, x43, x44, x45, x121000, x121001, x124000, x124001, x124002, x124003, x124004, x124005, x124006, x129000, x129001, x129002, x129003, x129004, x129005, x129006 => if x45 < x44 then (if 0 ≤ x45 then (if x45 < (x43.length : Int) then (if x129004 > ((rd_T42 x43 x45).f0) then ((spec_l23Less.f ((rd_T42 x43 x45).f1) x129004).bind fun t131 => (if x9.length < 8796093022208 then ((some (x9 ++ [(⟨(rd_T42 x43 x45).f0, t131⟩ : S42)] : List (S42))).bind fun y132 => (if x129005 < ((rd_T42 x43 x45).f1) then ((spec_l23More.f ((rd_T42 x43 x45).f0) x129005).bind fun t135 => (if y132.length < 8796093022208 then (spec_SelfTimes.l2 k x3 (y132 ++ [(⟨t135, (rd_T42 x43 x45).f1⟩ : S42)]) x19 x20 x21 x32 x33 x34 x43 x44 (wrap64 (x45 + 1)) x121000 x121001 x124000 x124001 x124002 x124003 x124004 x124005 x124006 x129000 x129001 x129002 x129003 x129004 x129005 x129006) else (none))) else (spec_SelfTimes.l2 k x3 y132 x19 x20 x21 x32 x33 x34 x43 x44 (wrap64 (x45 + 1)) x121000 x121001 x124000 x124001 x124002 x124003 x124004 x124005 x124006 x129000 x129001 x129002 x129003 x129004 x129005 x129006))) else (none))) else (if x129005 < ((rd_T42 x43 x45).f1) then ((spec_l23More.f ((rd_T42 x43 x45).f0) x129005).bind fun t139 => (if x9.length < 8796093022208 then (spec_SelfTimes.l2 k x3 (x9 ++ [(⟨t139, (rd_T42 x43 x45).f1⟩ : S42)]) x19 x20 x21 x32 x33 x34 x43 x44 (wrap64 (x45 + 1)) x121000 x121001 x124000 x124001 x124002 x124003 x124004 x124005 x124006 x129000 x129001 x129002 x129003 x129004 x129005 x129006) else (none))) else (spec_SelfTimes.l2 k x3 x9 x19 x20 x21 x32 x33 x34 x43 x44 (wrap64 (x45 + 1)) x121000 x121001 x124000 x124001 x124002 x124003 x124004 x124005 x124006 x129000 x129001 x129002 x129003 x129004 x129005 x129006))) else (none)) else (none)) else (spec_SelfTimes.l1 k x3 x9 x19 x20 x21 x32 x33 (wrap64 (x34 + 1)) x121000 x121001 x124000 x124001 x124002 x124003 x124004 x124005 x124006)
def spec_SelfTimes.l3 : Nat → List Int → Int → List (S40) → Int → Int → List (S42) → Int → Int → Int → List (S40) → Option (List Int)
  | 0, _, _, _, _, _, _, _, _, _, _ => none
  | k + 1, x3, x12, x19, x20, x21, x84, x85, x86, x121000, x121001 => if x86 < x85 then (if 0 ≤ x86 then (if x86 < (x84.length : Int) then (if ((rd_T42 x84 x86).f1) > ((rd_T42 x84 x86).f0) then (spec_SelfTimes.l3 k x3 (wrap64 (x12 + (wrap64 (((rd_T42 x84 x86).f1) - ((rd_T42 x84 x86).f0))))) x19 x20 x21 x84 x85 (wrap64 (x86 + 1)) x121000 x121001) else (spec_SelfTimes.l3 k x3 x12 x19 x20 x21 x84 x85 (wrap64 (x86 + 1)) x121000 x121001)) else (none)) else (none)) else (if x3.length < 17592186044416 then (spec_SelfTimes.l0 k (x3 ++ [x12]) x19 x20 (wrap64 (x21 + 1)) x121000 x121001) else (none))
end
def spec_SelfTimes.f (k : Nat) (a0_0 : Int) (l0_1 : List (S40)) : Option (List Int) := (spec_GoodTrace.f a0_0 l0_1).bind fun t121 => (if t121 = true then (spec_SelfTimes.l0 k ([] : List Int) l0_1 (l0_1.length : Int) 0 a0_0 l0_1) else (some ([] : List Int)))
theorem spec_SelfTimes.mono_l : ∀ k, (∀ y0 y1 y2 y3 y4 y5, LeO (spec_SelfTimes.l0 k y0 y1 y2 y3 y4 y5) (spec_SelfTimes.l0 (k + 1) y0 y1 y2 y3 y4 y5)) ∧ (∀ y0 y1 y2 y3 y4 y5 y6 y7 y8 y9 y10 y11 y12 y13 y14 y15 y16, LeO (spec_SelfTimes.l1 k y0 y1 y2 y3 y4 y5 y6 y7 y8 y9 y10 y11 y12 y13 y14 y15 y16) (spec_SelfTimes.l1 (k + 1) y0 y1 y2 y3 y4 y5 y6 y7 y8 y9 y10 y11 y12 y13 y14 y15 y16)) ∧ (∀ y0 y1 y2 y3 y4 y5 y6 y7 y8 y9 y10 y11 y12 y13 y14 y15 y16 y17 y18 y19 y20 y21 y22 y23 y24 y25 y26, LeO (spec_SelfTimes.l2 k y0 y1 y2 y3 y4 y5 y6 y7 y8 y9 y10 y11 y12 y13 y14 y15 y16 y17 y18 y19 y20 y21 y22 y23 y24 y25 y26) (spec_SelfTimes.l2 (k + 1) y0 y1 y2 y3 y4 y5 y6 y7 y8 y9 y10 y11 y12 y13 y14 y15 y16 y17 y18 y19 y20 y21 y22 y23 y24 y25 y26)) ∧ (∀ y0 y1 y2 y3 y4 y5 y6 y7 y8 y9, LeO (spec_SelfTimes.l3 k y0 y1 y2 y3 y4 y5 y6 y7 y8 y9) (spec_SelfTimes.l3 (k + 1) y0 y1 y2 y3 y4 y5 y6 y7 y8 y9))
  | 0 => ⟨fun _ _ _ _ _ _ r h => by simp [spec_SelfTimes.l0] at h, fun _ _ _ _ _ _ _ _ _ _ _ _ _ _ _ _ _ r h => by simp [spec_SelfTimes.l1] at h, fun _ _ _ _ _ _ _ _ _ _ _ _ _ _ _ _ _ _ _ _ _ _ _ _ _ _ _ r h => by simp [spec_SelfTimes.l2] at h, fun _ _ _ _ _ _ _ _ _ _ r h => by simp [spec_SelfTimes.l3] at h⟩
  | k + 1 => by
    obtain ⟨ih0, ih1, ih2, ih3⟩ := spec_SelfTimes.mono_l k
    refine ⟨?_, ?_, ?_, ?_⟩
    · intro y0 y1 y2 y3 y4 y5
      unfold spec_SelfTimes.l0
      repeat' first
      | (with_reducible exact ih0 _ _ _ _ _ _)
      | (with_reducible exact ih1 _ _ _ _ _ _ _ _ _ _ _ _ _ _ _ _ _)
      | (with_reducible exact ih2 _ _ _ _ _ _ _ _ _ _ _ _ _ _ _ _ _ _ _ _ _ _ _ _ _ _ _)
      | (with_reducible exact ih3 _ _ _ _ _ _ _ _ _ _)
      | (with_reducible exact LeO.refl _)
      | (with_reducible exact LeO.none _)
      | (with_reducible refine LeO.ite ?_ ?_)
      | (with_reducible refine LeO.bind ?_ (fun _ => ?_))
      | exact ih0 _ _ _ _ _ _
      | exact ih1 _ _ _ _ _ _ _ _ _ _ _ _ _ _ _ _ _
      | exact ih2 _ _ _ _ _ _ _ _ _ _ _ _ _ _ _ _ _ _ _ _ _ _ _ _ _ _ _
      | exact ih3 _ _ _ _ _ _ _ _ _ _
      | exact LeO.none _
      | refine LeO.ite ?_ ?_
      | refine LeO.bind ?_ (fun _ => ?_)
    · intro y0 y1 y2 y3 y4 y5 y6 y7 y8 y9 y10 y11 y12 y13 y14 y15 y16
      unfold spec_SelfTimes.l1
      repeat' first
      | (with_reducible exact ih0 _ _ _ _ _ _)
      | (with_reducible exact ih1 _ _ _ _ _ _ _ _ _ _ _ _ _ _ _ _ _)
      | (with_reducible exact ih2 _ _ _ _ _ _ _ _ _ _ _ _ _ _ _ _ _ _ _ _ _ _ _ _ _ _ _)
      | (with_reducible exact ih3 _ _ _ _ _ _ _ _ _ _)
      | (with_reducible exact LeO.refl _)
      | (with_reducible exact LeO.none _)
      | (with_reducible refine LeO.ite ?_ ?_)
      | (with_reducible refine LeO.bind ?_ (fun _ => ?_))
      | exact ih0 _ _ _ _ _ _
      | exact ih1 _ _ _ _ _ _ _ _ _ _ _ _ _ _ _ _ _
      | exact ih2 _ _ _ _ _ _ _ _ _ _ _ _ _ _ _ _ _ _ _ _ _ _ _ _ _ _ _
      | exact ih3 _ _ _ _ _ _ _ _ _ _
      | exact LeO.none _
      | refine LeO.ite ?_ ?_
      | refine LeO.bind ?_ (fun _ => ?_)
    · intro y0 y1 y2 y3 y4 y5 y6 y7 y8 y9 y10 y11 y12 y13 y14 y15 y16 y17 y18 y19 y20 y21 y22 y23 y24 y25 y26
      unfold spec_SelfTimes.l2
      repeat' first
      | (with_reducible exact ih0 _ _ _ _ _ _)
      | (with_reducible exact ih1 _ _ _ _ _ _ _ _ _ _ _ _ _ _ _ _ _)
      | (with_reducible exact ih2 _ _ _ _ _ _ _ _ _ _ _ _ _ _ _ _ _ _ _ _ _ _ _ _ _ _ _)
      | (with_reducible exact ih3 _ _ _ _ _ _ _ _ _ _)
      | (with_reducible exact LeO.refl _)
      | (with_reducible exact LeO.none _)
      | (with_reducible refine LeO.ite ?_ ?_)
      | (with_reducible refine LeO.bind ?_ (fun _ => ?_))
      | exact ih0 _ _ _ _ _ _
      | exact ih1 _ _ _ _ _ _ _ _ _ _ _ _ _ _ _ _ _
      | exact ih2 _ _ _ _ _ _ _ _ _ _ _ _ _ _ _ _ _ _ _ _ _ _ _ _ _ _ _
      | exact ih3 _ _ _ _ _ _ _ _ _ _
      | exact LeO.none _
      | refine LeO.ite ?_ ?_
      | refine LeO.bind ?_ (fun _ => ?_)
    · intro y0 y1 y2 y3 y4 y5 y6 y7 y8 y9
      unfold spec_SelfTimes.l3
      repeat' first
      | (with_reducible exact ih0 _ _ _ _ _ _)
      | (with_reducible exact ih1 _ _ _ _ _ _ _ _ _ _ _ _ _ _ _ _ _)
      | (with_reducible exact ih2 _ _ _ _ _ _ _ _ _ _ _ _ _ _ _ _ _ _ _ _ _ _ _ _ _ _ _)
      | (with_reducible exact ih3 _ _ _ _ _ _ _ _ _ _)
      | (with_reducible exact LeO.refl _)
      | (with_reducible exact LeO.none _)
      | (with_reducible refine LeO.ite ?_ ?_)
      | (with_reducible refine LeO.bind ?_ (fun _ => ?_))
      | exact ih0 _ _ _ _ _ _
      | exact ih1 _ _ _ _ _ _ _ _ _ _ _ _ _ _ _ _ _
      | exact ih2 _ _ _ _ _ _ _ _ _ _ _ _ _ _ _ _ _ _ _ _ _ _ _ _ _ _ _
      | exact ih3 _ _ _ _ _ _ _ _ _ _
      | exact LeO.none _
      | refine LeO.ite ?_ ?_
      | refine LeO.bind ?_ (fun _ => ?_)
theorem spec_SelfTimes.mono : ∀ a0 a1 k, LeO (spec_SelfTimes.f k a0 a1) (spec_SelfTimes.f (k + 1) a0 a1) := by
  intro a0 a1 k
  obtain ⟨ih0, ih1, ih2, ih3⟩ := spec_SelfTimes.mono_l k
  unfold spec_SelfTimes.f
  repeat' first
      | (with_reducible exact ih0 _ _ _ _ _ _)
      | (with_reducible exact ih1 _ _ _ _ _ _ _ _ _ _ _ _ _ _ _ _ _)
      | (with_reducible exact ih2 _ _ _ _ _ _ _ _ _ _ _ _ _ _ _ _ _ _ _ _ _ _ _ _ _ _ _)
      | (with_reducible exact ih3 _ _ _ _ _ _ _ _ _ _)
      | (with_reducible exact LeO.refl _)
      | (with_reducible exact LeO.none _)
      | (with_reducible refine LeO.ite ?_ ?_)
      | (with_reducible refine LeO.bind ?_ (fun _ => ?_))
      | exact ih0 _ _ _ _ _ _
      | exact ih1 _ _ _ _ _ _ _ _ _ _ _ _ _ _ _ _ _
      | exact ih2 _ _ _ _ _ _ _ _ _ _ _ _ _ _ _ _ _ _ _ _ _ _ _ _ _ _ _
      | exact ih3 _ _ _ _ _ _ _ _ _ _
      | exact LeO.none _
      | refine LeO.ite ?_ ?_
      | refine LeO.bind ?_ (fun _ => ?_)
def spec_SelfTimes.T17 : Bool × List (List Nat × List Nat) := (true, [([], []), ([], []), ([1], [1]), ([], []), ([3], [3]), ([], []), ([5], [5]), ([4, 6], [4, 6]), ([2, 7], [2, 7]), ([8], [8]), ([0, 9, 7], [0, 9]), ([10, 10, 0, 1, 2, 3, 4, 5, 6, 7, 8, 9, 10], [0, 10])])
def spec_SelfTimes.B17 : List Nat := [0, 0, 2, 0, 8, 0, 32, 120, 254, 510, 1023, 2047]
theorem spec_SelfTimes.tab17 : rtab .any (opsOf Try.f5 17) = spec_SelfTimes.T17 := by kernel_rfl
theorem spec_SelfTimes.bits17 : waitsOk spec_SelfTimes.T17.2 spec_SelfTimes.B17 = true := by kernel_rfl
def spec_SelfTimes.T19 : Bool × List (List Nat × List Nat) := (true, [([], []), ([], []), ([1], [1]), ([], []), ([3], [3]), ([2, 4], [2, 4]), ([], []), ([6], [6]), ([5, 7], [5, 7]), ([8], [8]), ([0, 9, 5], [0, 9]), ([10, 10, 0, 1, 2, 3, 4, 5, 6, 7, 8, 9, 10], [0, 10])])
def spec_SelfTimes.B19 : List Nat := [0, 0, 2, 0, 8, 30, 0, 64, 254, 510, 1023, 2047]
theorem spec_SelfTimes.tab19 : rtab .any (opsOf Try.f5 19) = spec_SelfTimes.T19 := by kernel_rfl
theorem spec_SelfTimes.bits19 : waitsOk spec_SelfTimes.T19.2 spec_SelfTimes.B19 = true := by kernel_rfl
set_option maxHeartbeats 8000000 in
set_option maxRecDepth 100000 in
theorem spec_SelfTimes.calls (k : Nat) (a0_0 : Int) (A0_1 : Option Addr) (c0_1 : Nat) (l0_1 : List (S40)) (r : List Int) (w : World) (hr0_1 : Kd.C k40 w A0_1 l0_1.length l0_1) (hc0_1 : l0_1.length ≤ c0_1) (h : spec_SelfTimes.f k a0_0 l0_1 = some r) :
    Calls Try.prog 5 #[.agg #[.int .i64 a0_0, .slice A0_1 l0_1.length c0_1]] w fun e w' => ∃ v0_ : Value, e = .returned (v0_) ∧ Kd.R (Kd.int .i64) 3 w' w.heap.size (fun _ => True) v0_ r ∧ Below w.heap.size w w' := by
  have hu30 := Try.underlying30
  have hu40 := Try.underlying40
  have hu42 := Try.underlying42
  have HR0_1 := Aside0.mk hr0_1
  have HC0_1 := Aside0.mk hc0_1
  clear hr0_1 hc0_1
  have HB := Aside0.mk (Below.refl w.heap.size w)
  have H : ((spec_GoodTrace.f a0_0 l0_1).bind fun t121 => (if t121 = true then (spec_SelfTimes.l0 k ([] : List Int) l0_1 (l0_1.length : Int) 0 a0_0 l0_1) else (some ([] : List Int)))) = some r := h
  clear h
  replace H := Option.bind_eq_some_iff.mp H
  obtain ⟨t121, A20, H⟩ := H
  replace H : (if t121 = true then (spec_SelfTimes.l0 k ([] : List Int) l0_1 (l0_1.length : Int) 0 a0_0 l0_1) else (some ([] : List Int))) = some r := H
  have A2 := Aside0.mk A20
  clear A20
  by_cases c3 : t121 = true
  · subst c3
    have H1 : (spec_SelfTimes.l0 k ([] : List Int) l0_1 (l0_1.length : Int) 0 a0_0 l0_1) = some r := by rw [if_pos rfl] at H; exact H
    clear H
    have H := H1
    clear H1
    have H' := Aside0.mk H
    clear H
    go_enter Try.func5, Try.ntmps5
    go_wp2_with (first | ((with_reducible refine gate_dst (N := 1) rfl ?_); refine box_event ?hg (N := 1) ?hd (cs := #[.int .i64 a0_0, .slice A0_1 l0_1.length c0_1]) (t := 30) ?hr ?_; (case hd => rfl); (case hg => rfl); (case hr => first | (go_simp; done) | (go_simp; rfl)); intro gb120 hg w4 hbox hb; have n0_ := Aside0.mk (below_step (by repeat (first | (with_reducible first | exact HB.out | apply below_alloc | apply pw_below_drewN | apply below_drew1) | exact HB.out)) hb); have n1_ := Aside0.mk (hbox); have n2_ := Aside0.mk ((by rw [hg]; exact (below_size (by repeat (first | (with_reducible first | exact HB.out | apply below_alloc | apply pw_below_drewN | apply below_drew1) | exact HB.out))) : w.heap.size ≤ gb120)); have n3_ := Aside0.mk ((by rw [hg]; exact (below_size (by repeat (first | (with_reducible first | exact HB.out | apply below_alloc | apply pw_below_drewN | apply below_drew1) | exact HB.out))) : w.heap.size ≤ gb120)); clear HB; have HB := n0_; have BK120 := n1_; have GW120 := n2_; have GE120 := n3_; clear n0_ n1_ n2_ n3_; clear hb hbox hg; have hcz5_0 : w4.cell? ⟨gb120, 0, none⟩ = some (.int .i64 a0_0) := (blk_cell BK120.out 0).trans rfl; have hcz5_1 : w4.cell? ⟨gb120, 1, none⟩ = some (.slice A0_1 l0_1.length c0_1) := (blk_cell BK120.out 1).trans rfl; have hfz5_0 := blk_frozen BK120.out 0; have hfz5_1 := blk_frozen BK120.out 1) | ((with_reducible refine gate_callee (f := 14) rfl ?_); refine goesL_ (some 16) rfl rfl Try.func14 (by kernel_rfl) rfl #[.agg #[.int .i64 a0_0, .slice A0_1 l0_1.length c0_1]] rfl (by (try simp only [List.map_toArray, List.map_cons, List.map_nil]); first | done | rfl | (simp only [List.length_drop, List.length_take]; rfl)) ?_; (with_reducible refine (spec_GoodTrace.calls a0_0 _ _ l0_1 true _ ?side1 ?side2 A2.out).mono ?_); (case side1 => repeat (first | exact (Kd.C_below HR0_1.out HB.out) | (with_reducible refine Kd.C_alloc ?_ _) | (with_reducible refine Kd.C_drewN ?_ _) | (with_reducible refine Kd.C_drew ?_))); (case side2 => exact HC0_1.out); rintro e w6 ⟨rfl, hb⟩; refine ⟨_, rfl, ?_⟩; have n0_ := Aside0.mk (blk_below (g := gb120) (o := .cells #[.int .i64 a0_0, .slice A0_1 l0_1.length c0_1] 30 (0, 0)) (by (with_reducible repeat (first | refine blk_drewN ?_ _ | refine blk_drew ?_ | refine blk_alloc ?_ _)); exact BK120.out) hb); have n1_ := Aside0.mk (below_step (by repeat (first | (with_reducible first | exact HB.out | apply below_alloc | apply pw_below_drewN | apply below_drew1 | refine below_set ?_ GE120.out) | exact HB.out)) hb); clear BK120; clear HB; have BK120 := n0_; have HB := n1_; clear n0_ n1_; (try clear hb); (try clear hb2); (try clear hk); (try clear hi); have hcz7_0 : w6.cell? ⟨gb120, 0, none⟩ = some (.int .i64 a0_0) := (blk_cell BK120.out 0).trans rfl; have hcz7_1 : w6.cell? ⟨gb120, 1, none⟩ = some (.slice A0_1 l0_1.length c0_1) := (blk_cell BK120.out 1).trans rfl; have hfz7_0 := blk_frozen BK120.out 0; have hfz7_1 := blk_frozen BK120.out 1))
    go_loopg [3, 21] k (fun kq v3 v21 w' => ∃ (x3_1 : List Int) (x21_1 : Int), v21 = .int .i64 x21_1 ∧ Aside0 (spec_SelfTimes.l0 kq x3_1 l0_1 (l0_1.length : Int) x21_1 a0_0 l0_1 = some r) ∧ Aside0 (kq ≤ k) ∧ Aside0 (Kd.R (Kd.int .i64) 3 w' w.heap.size (fun _ => True) v3 x3_1) ∧ Aside0 (w'.heap[gb120]? = some (.cells #[.int .i64 a0_0, (.slice A0_1 l0_1.length c0_1)] 30 (0, 0))) ∧ Aside0 (Below w.heap.size w w'))
    case atStart => exact ⟨(([] : List Int)), (0), (by first | rfl | (simp; done) | (simp [*]; done)), H', ⟨Nat.le_refl _⟩, ⟨by first | exact Kd.R_nil _ _ _ _ _ | exact Kd.N_nil _ _ _ _ _ | exact Kd.V_nil _ _ _ _ _ | exact Kd.Q_nil _ _ _ _ _ | exact Kd.S_nil _ _ _ _ _⟩, ⟨by (with_reducible repeat (first | refine blk_drewN ?_ _ | refine blk_drew ?_ | refine blk_alloc ?_ _)); exact BK120.out⟩, ⟨by repeat (first | (with_reducible first | exact HB.out | apply below_alloc | apply pw_below_drewN | apply below_drew1 | refine below_set ?_ GE120.out) | exact HB.out)⟩⟩
    case round =>
      clear H'
      try clear c1
      try clear p2
      try clear c3
      try clear c5
      try clear hcz5_0
      try clear hcz5_1
      try clear hcz7_0
      try clear hcz7_1
      try clear hfz5_0
      try clear hfz5_1
      try clear hfz7_0
      try clear hfz7_1
      obtain ⟨x3_1, x21_1, rfl, HA, HK1, HO_3, BK120, HB⟩ := hrel
      cases gk with
      | zero => exact absurd HA.out (by simp [spec_SelfTimes.l0])
      | succ k1 =>
        have H := HA.out
        clear HA
        simp only [spec_SelfTimes.l0] at H
        by_cases c8 : x21_1 < (l0_1.length : Int)
        · rw [if_pos c8] at H
          have c8b0 : decide (x21_1 < (l0_1.length : Int)) = true := decide_eq_true c8
          clear c8
          by_cases c9 : 0 ≤ x21_1
          · rw [if_pos c9] at H
            have c9b0 : decide (0 ≤ x21_1) = true := decide_eq_true c9
            clear c9
            by_cases c10 : x21_1 < (l0_1.length : Int)
            · rw [if_pos c10] at H
              have c10b0 : decide (x21_1 < (l0_1.length : Int)) = true := decide_eq_true c10
              clear c10
              obtain ⟨y124, hy124⟩ : ∃ y_ : List (S42), y_ = (([(⟨(rd_T40 l0_1 x21_1).f4, (rd_T40 l0_1 x21_1).f5⟩ : S42)] : List (S42))) := ⟨_, rfl⟩
              replace H : (spec_SelfTimes.l1 k1 x3_1 y124 l0_1 (l0_1.length : Int) x21_1 l0_1 (l0_1.length : Int) 0 a0_0 l0_1 ((rd_T40 l0_1 x21_1).f0) ((rd_T40 l0_1 x21_1).f1) ((rd_T40 l0_1 x21_1).f2) ((rd_T40 l0_1 x21_1).f3) ((rd_T40 l0_1 x21_1).f4) ((rd_T40 l0_1 x21_1).f5) ((rd_T40 l0_1 x21_1).f6)) = some r := by first | (rw [hy124]; with_reducible exact H) | (have H2_ := (Option.bind_some _ _).symm.trans H; rw [hy124]; with_reducible exact H2_) | (have H2_ := (Option.bind_some _ _).symm.trans H; with_reducible exact H2_) | with_reducible exact H | (rw [hy124]; exact H) | exact H
              have Ny124 := Aside0.mk hy124
              clear hy124
              have H' := Aside0.mk H
              clear H
              have p122 : 0 ≤ (x21_1 : Int) := of_decide_eq_true (by first | (with_reducible assumption) | assumption)
              have q122 : x21_1 < (l0_1.length : Int) := of_decide_eq_true (by first | (with_reducible assumption) | assumption)
              obtain ⟨ad122, e122, hx122_0, hx122_1, hx122_2, hx122_3, hx122_4, hx122_5, hx122_6⟩ := at_T40 HR0_1.out x21_1 p122 q122
              cases e122
              replace hx122_0 := (HB.out.cell (World.block_lt_of_cell? w _ hx122_0)).trans hx122_0
              replace hx122_1 := (HB.out.cell (World.block_lt_of_cell? w _ hx122_1)).trans hx122_1
              replace hx122_2 := (HB.out.cell (World.block_lt_of_cell? w _ hx122_2)).trans hx122_2
              replace hx122_3 := (HB.out.cell (World.block_lt_of_cell? w _ hx122_3)).trans hx122_3
              replace hx122_4 := (HB.out.cell (World.block_lt_of_cell? w _ hx122_4)).trans hx122_4
              replace hx122_5 := (HB.out.cell (World.block_lt_of_cell? w _ hx122_5)).trans hx122_5
              replace hx122_6 := (HB.out.cell (World.block_lt_of_cell? w _ hx122_6)).trans hx122_6
              replace p122 := eq_true p122
              replace q122 := eq_true q122
              go_wp2_with (first | ((with_reducible refine gate_dst (N := 5) rfl ?_); refine box_event ?hg (N := 5) ?hd (cs := #[.int .i64 0, .int .i64 0, .string (⟨#[]⟩ : ByteArray), .string (⟨#[]⟩ : ByteArray), .int .i64 0, .int .i64 0, .bool false]) (t := 40) ?hr ?_; (case hd => rfl); (case hg => rfl); (case hr => first | (go_simp; done) | (go_simp; rfl)); intro gb123 hg w11 hbox hb; have n0_ := Aside0.mk (Kd.R_below (by (with_reducible repeat (first | apply Kd.R_alloc | apply Kd.R_drewN | apply Kd.R_drew)); exact HO_3.out) hb); have n1_ := Aside0.mk (blk_below (g := gb120) (o := .cells #[.int .i64 a0_0, .slice (some ad122) l0_1.length c0_1] 30 (0, 0)) (by (with_reducible repeat (first | refine blk_drewN ?_ _ | refine blk_drew ?_ | refine blk_alloc ?_ _)); exact BK120.out) hb); have n2_ := Aside0.mk (below_step (by repeat (first | (with_reducible first | exact HB.out | apply below_alloc | apply pw_below_drewN | apply below_drew1 | refine below_set ?_ GE120.out) | exact HB.out)) hb); have n3_ := Aside0.mk (hbox); have n4_ := Aside0.mk ((by rw [hg]; exact (below_size (by repeat (first | (with_reducible first | exact HB.out | apply below_alloc | apply pw_below_drewN | apply below_drew1 | refine below_set ?_ GE120.out) | exact HB.out))) : w.heap.size ≤ gb123)); have n5_ := Aside0.mk ((by rw [hg]; exact (below_size (by repeat (first | (with_reducible first | exact HB.out | apply below_alloc | apply pw_below_drewN | apply below_drew1 | refine below_set ?_ GE120.out) | exact HB.out))) : w.heap.size ≤ gb123)); have n6_ := Aside0.mk ((by rw [hg]; exact Nat.ne_of_lt (blk_lt (g := gb120) (o := .cells #[.int .i64 a0_0, .slice (some ad122) l0_1.length c0_1] 30 (0, 0)) (by (with_reducible repeat (first | refine blk_drewN ?_ _ | refine blk_drew ?_ | refine blk_alloc ?_ _)); exact BK120.out)) : gb120 ≠ gb123)); have n7_ := Aside0.mk ((by rw [hg]; exact Nat.ne_of_gt (blk_lt (g := gb120) (o := .cells #[.int .i64 a0_0, .slice (some ad122) l0_1.length c0_1] 30 (0, 0)) (by (with_reducible repeat (first | refine blk_drewN ?_ _ | refine blk_drew ?_ | refine blk_alloc ?_ _)); exact BK120.out)) : gb123 ≠ gb120)); clear HO_3; clear BK120; clear HB; have HO_3 := n0_; have BK120 := n1_; have HB := n2_; have BK123 := n3_; have GW123 := n4_; have GE123 := n5_; have NB120_123 := n6_; have NB123_120 := n7_; clear n0_ n1_ n2_ n3_ n4_ n5_ n6_ n7_; clear hb hbox hg; have hnb12 := NB123_120.out; have hnc12 := NB120_123.out; have hcz13_0 : w11.cell? ⟨gb123, 0, none⟩ = some (.int .i64 0) := (blk_cell BK123.out 0).trans rfl; have hcz13_1 : w11.cell? ⟨gb123, 1, none⟩ = some (.int .i64 0) := (blk_cell BK123.out 1).trans rfl; have hcz13_2 : w11.cell? ⟨gb123, 2, none⟩ = some (.string (⟨#[]⟩ : ByteArray)) := (blk_cell BK123.out 2).trans rfl; have hcz13_3 : w11.cell? ⟨gb123, 3, none⟩ = some (.string (⟨#[]⟩ : ByteArray)) := (blk_cell BK123.out 3).trans rfl; have hcz13_4 : w11.cell? ⟨gb123, 4, none⟩ = some (.int .i64 0) := (blk_cell BK123.out 4).trans rfl; have hcz13_5 : w11.cell? ⟨gb123, 5, none⟩ = some (.int .i64 0) := (blk_cell BK123.out 5).trans rfl; have hcz13_6 : w11.cell? ⟨gb123, 6, none⟩ = some (.bool false) := (blk_cell BK123.out 6).trans rfl; have hfz13_0 := blk_frozen BK123.out 0; have hfz13_1 := blk_frozen BK123.out 1; have hfz13_2 := blk_frozen BK123.out 2; have hfz13_3 := blk_frozen BK123.out 3; have hfz13_4 := blk_frozen BK123.out 4; have hfz13_5 := blk_frozen BK123.out 5; have hfz13_6 := blk_frozen BK123.out 6) | ((with_reducible refine gate_dst (N := 30) rfl ?_); refine Kd.R_lit k42 _ 42 ?hg (N := 30) ?hd (xs := ([(⟨(rd_T40 l0_1 x21_1).f4, (rd_T40 l0_1 x21_1).f5⟩ : S42)] : List (S42))) (inner := [.int .i64 ((rd_T40 l0_1 x21_1).f4), .int .i64 ((rd_T40 l0_1 x21_1).f5)]) (ok := fun _ => True) (okp := fun _ => True) ?hr ?hp (fun _ hk => hk) trivial (Below.refl _ _) (Nat.le_refl _) (by simp) ?_; (case hd => rfl); (case hg => rfl); (case hr => first | (go_simp; done) | (go_simp; rfl)); (case hp => exact (Reps.c2 (show Kd.M k42 _ _ _ (⟨(rd_T40 l0_1 x21_1).f4, (rd_T40 l0_1 x21_1).f5⟩ : S42) [.int .i64 ((rd_T40 l0_1 x21_1).f4), .int .i64 ((rd_T40 l0_1 x21_1).f5)] from (k42_mkM _ _ _ (⟨(rd_T40 l0_1 x21_1).f4, (rd_T40 l0_1 x21_1).f5⟩ : S42) )) (Reps.none _ _))); intro v125 w14 ho15 hb hg_ hnew_; clear hg_ hnew_; (first | rw [← Ny124.out] at ho15 | (simp only [Int.reduceToNat] at ho15; rw [← Ny124.out] at ho15)); have n0_ := Aside0.mk (Kd.R_below (by (with_reducible repeat (first | apply Kd.R_alloc | apply Kd.R_drewN | apply Kd.R_drew)); exact (Kd.R_mono (Kd.R_far (p := ⟨gb123, 6, none⟩) (Kd.R_far (p := ⟨gb123, 5, none⟩) (Kd.R_far (p := ⟨gb123, 4, none⟩) (Kd.R_far (p := ⟨gb123, 3, none⟩) (Kd.R_far (p := ⟨gb123, 2, none⟩) (Kd.R_far (p := ⟨gb123, 1, none⟩) (Kd.R_far (p := ⟨gb123, 0, none⟩) (Kd.R_types HO_3.out BK123.out (by decide)) (fun _ hk => hk.2) (.int .i64 ((rd_T40 l0_1 x21_1).f0))) (fun _ hk => hk.2) (.int .i64 ((rd_T40 l0_1 x21_1).f1))) (fun _ hk => hk.2) (.string ((rd_T40 l0_1 x21_1).f2))) (fun _ hk => hk.2) (.string ((rd_T40 l0_1 x21_1).f3))) (fun _ hk => hk.2) (.int .i64 ((rd_T40 l0_1 x21_1).f4))) (fun _ hk => hk.2) (.int .i64 ((rd_T40 l0_1 x21_1).f5))) (fun _ hk => hk.2) (.bool ((rd_T40 l0_1 x21_1).f6))) (fun _ h_ => h_.1))) hb); have n1_ := Aside0.mk (Kd.R_lower ho15 (below_size (by repeat (first | (with_reducible first | exact HB.out | apply below_alloc | apply pw_below_drewN | apply below_drew1 | refine below_set ?_ GE120.out | refine below_set ?_ GE123.out) | exact HB.out)))); have n2_ := Aside0.mk (blk_below (g := gb120) (o := .cells #[.int .i64 a0_0, .slice (some ad122) l0_1.length c0_1] 30 (0, 0)) (by (with_reducible repeat (first | refine blk_drewN ?_ _ | refine blk_drew ?_ | refine blk_alloc ?_ _)); refine blk_far ?_ NB120_123.out _; (with_reducible repeat (first | refine blk_drewN ?_ _ | refine blk_drew ?_ | refine blk_alloc ?_ _)); refine blk_far ?_ NB120_123.out _; (with_reducible repeat (first | refine blk_drewN ?_ _ | refine blk_drew ?_ | refine blk_alloc ?_ _)); refine blk_far ?_ NB120_123.out _; (with_reducible repeat (first | refine blk_drewN ?_ _ | refine blk_drew ?_ | refine blk_alloc ?_ _)); refine blk_far ?_ NB120_123.out _; (with_reducible repeat (first | refine blk_drewN ?_ _ | refine blk_drew ?_ | refine blk_alloc ?_ _)); refine blk_far ?_ NB120_123.out _; (with_reducible repeat (first | refine blk_drewN ?_ _ | refine blk_drew ?_ | refine blk_alloc ?_ _)); refine blk_far ?_ NB120_123.out _; (with_reducible repeat (first | refine blk_drewN ?_ _ | refine blk_drew ?_ | refine blk_alloc ?_ _)); refine blk_far ?_ NB120_123.out _; (with_reducible repeat (first | refine blk_drewN ?_ _ | refine blk_drew ?_ | refine blk_alloc ?_ _)); exact BK120.out) hb); have n3_ := Aside0.mk (blk_below (g := gb123) (o := .cells #[.int .i64 ((rd_T40 l0_1 x21_1).f0), .int .i64 ((rd_T40 l0_1 x21_1).f1), .string ((rd_T40 l0_1 x21_1).f2), .string ((rd_T40 l0_1 x21_1).f3), .int .i64 ((rd_T40 l0_1 x21_1).f4), .int .i64 ((rd_T40 l0_1 x21_1).f5), .bool ((rd_T40 l0_1 x21_1).f6)] 40 (0, 0)) (by (with_reducible repeat (first | refine blk_drewN ?_ _ | refine blk_drew ?_ | refine blk_alloc ?_ _)); refine blk_put (cs := #[.int .i64 ((rd_T40 l0_1 x21_1).f0), .int .i64 ((rd_T40 l0_1 x21_1).f1), .string ((rd_T40 l0_1 x21_1).f2), .string ((rd_T40 l0_1 x21_1).f3), .int .i64 ((rd_T40 l0_1 x21_1).f4), .int .i64 ((rd_T40 l0_1 x21_1).f5), .bool false]) ?_ 6 _ rfl; (with_reducible repeat (first | refine blk_drewN ?_ _ | refine blk_drew ?_ | refine blk_alloc ?_ _)); refine blk_put (cs := #[.int .i64 ((rd_T40 l0_1 x21_1).f0), .int .i64 ((rd_T40 l0_1 x21_1).f1), .string ((rd_T40 l0_1 x21_1).f2), .string ((rd_T40 l0_1 x21_1).f3), .int .i64 ((rd_T40 l0_1 x21_1).f4), .int .i64 0, .bool false]) ?_ 5 _ rfl; (with_reducible repeat (first | refine blk_drewN ?_ _ | refine blk_drew ?_ | refine blk_alloc ?_ _)); refine blk_put (cs := #[.int .i64 ((rd_T40 l0_1 x21_1).f0), .int .i64 ((rd_T40 l0_1 x21_1).f1), .string ((rd_T40 l0_1 x21_1).f2), .string ((rd_T40 l0_1 x21_1).f3), .int .i64 0, .int .i64 0, .bool false]) ?_ 4 _ rfl; (with_reducible repeat (first | refine blk_drewN ?_ _ | refine blk_drew ?_ | refine blk_alloc ?_ _)); refine blk_put (cs := #[.int .i64 ((rd_T40 l0_1 x21_1).f0), .int .i64 ((rd_T40 l0_1 x21_1).f1), .string ((rd_T40 l0_1 x21_1).f2), .string (⟨#[]⟩ : ByteArray), .int .i64 0, .int .i64 0, .bool false]) ?_ 3 _ rfl; (with_reducible repeat (first | refine blk_drewN ?_ _ | refine blk_drew ?_ | refine blk_alloc ?_ _)); refine blk_put (cs := #[.int .i64 ((rd_T40 l0_1 x21_1).f0), .int .i64 ((rd_T40 l0_1 x21_1).f1), .string (⟨#[]⟩ : ByteArray), .string (⟨#[]⟩ : ByteArray), .int .i64 0, .int .i64 0, .bool false]) ?_ 2 _ rfl; (with_reducible repeat (first | refine blk_drewN ?_ _ | refine blk_drew ?_ | refine blk_alloc ?_ _)); refine blk_put (cs := #[.int .i64 ((rd_T40 l0_1 x21_1).f0), .int .i64 0, .string (⟨#[]⟩ : ByteArray), .string (⟨#[]⟩ : ByteArray), .int .i64 0, .int .i64 0, .bool false]) ?_ 1 _ rfl; (with_reducible repeat (first | refine blk_drewN ?_ _ | refine blk_drew ?_ | refine blk_alloc ?_ _)); refine blk_put (cs := #[.int .i64 0, .int .i64 0, .string (⟨#[]⟩ : ByteArray), .string (⟨#[]⟩ : ByteArray), .int .i64 0, .int .i64 0, .bool false]) ?_ 0 _ rfl; (with_reducible repeat (first | refine blk_drewN ?_ _ | refine blk_drew ?_ | refine blk_alloc ?_ _)); exact BK123.out) hb); have n4_ := Aside0.mk (below_step (by repeat (first | (with_reducible first | exact HB.out | apply below_alloc | apply pw_below_drewN | apply below_drew1 | refine below_set ?_ GE120.out | refine below_set ?_ GE123.out) | exact HB.out)) hb); clear HO_3; clear BK120; clear BK123; clear HB; have HO_3 := n0_; have HO126 := n1_; have BK120 := n2_; have BK123 := n3_; have HB := n4_; clear n0_ n1_ n2_ n3_ n4_; clear hb ho15; have hcz16_0 : w14.cell? ⟨gb120, 0, none⟩ = some (.int .i64 a0_0) := (blk_cell BK120.out 0).trans rfl; have hcz16_1 : w14.cell? ⟨gb120, 1, none⟩ = some (.slice (some ad122) l0_1.length c0_1) := (blk_cell BK120.out 1).trans rfl; have hfz16_0 := blk_frozen BK120.out 0; have hfz16_1 := blk_frozen BK120.out 1))
              go_loopg [6, 34] k1 (fun kq v6 v34 w' => ∃ (x6_2 : List (S42)) (x34_2 : Int), v34 = .int .i64 x34_2 ∧ Aside0 (spec_SelfTimes.l1 kq x3_1 x6_2 l0_1 (l0_1.length : Int) x21_1 l0_1 (l0_1.length : Int) x34_2 a0_0 l0_1 ((rd_T40 l0_1 x21_1).f0) ((rd_T40 l0_1 x21_1).f1) ((rd_T40 l0_1 x21_1).f2) ((rd_T40 l0_1 x21_1).f3) ((rd_T40 l0_1 x21_1).f4) ((rd_T40 l0_1 x21_1).f5) ((rd_T40 l0_1 x21_1).f6) = some r) ∧ Aside0 (kq ≤ k1) ∧ Aside0 (Kd.R (Kd.int .i64) 3 w' w.heap.size (fun _ => True) u3 x3_1) ∧ Aside0 (Kd.R k42 42 w' w.heap.size (fun _ => True) v6 x6_2) ∧ Aside0 (w'.heap[gb120]? = some (.cells #[.int .i64 a0_0, (.slice (some ad122) l0_1.length c0_1)] 30 (0, 0))) ∧ Aside0 (w'.heap[gb123]? = some (.cells #[.int .i64 ((rd_T40 l0_1 x21_1).f0), .int .i64 ((rd_T40 l0_1 x21_1).f1), .string ((rd_T40 l0_1 x21_1).f2), .string ((rd_T40 l0_1 x21_1).f3), .int .i64 ((rd_T40 l0_1 x21_1).f4), .int .i64 ((rd_T40 l0_1 x21_1).f5), .bool ((rd_T40 l0_1 x21_1).f6)] 40 (0, 0))) ∧ Aside0 (Below w.heap.size w w'))
              case atStart => exact ⟨(y124), (0), (by first | rfl | (simp; done) | (simp [*]; done)), H', ⟨Nat.le_refl _⟩, ⟨by (with_reducible repeat (first | apply Kd.R_alloc | apply Kd.R_drewN | apply Kd.R_drew)); exact HO_3.out⟩, ⟨by (with_reducible repeat (first | apply Kd.R_alloc | apply Kd.R_drewN | apply Kd.R_drew)); exact HO126.out⟩, ⟨by (with_reducible repeat (first | refine blk_drewN ?_ _ | refine blk_drew ?_ | refine blk_alloc ?_ _)); exact BK120.out⟩, ⟨by (with_reducible repeat (first | refine blk_drewN ?_ _ | refine blk_drew ?_ | refine blk_alloc ?_ _)); exact BK123.out⟩, ⟨by repeat (first | (with_reducible first | exact HB.out | apply below_alloc | apply pw_below_drewN | apply below_drew1 | refine below_set ?_ GE120.out | refine below_set ?_ GE123.out) | exact HB.out)⟩⟩
              case round =>
                clear H'
                try clear c1
                try clear p1
                try clear q1
                try clear hx1
                try clear c2
                try clear p2
                try clear c3
                try clear c5
                try clear c8
                try clear c8b0
                try clear c9
                try clear c9b0
                try clear c10
                try clear c10b0
                try clear c12
                try clear p12
                try clear q12
                try clear hx12
                try clear c14
                try clear hcz13_0
                try clear hcz13_1
                try clear hcz13_2
                try clear hcz13_3
                try clear hcz13_4
                try clear hcz13_5
                try clear hcz13_6
                try clear hcz16_0
                try clear hcz16_1
                try clear hcz5_0
                try clear hcz5_1
                try clear hcz7_0
                try clear hcz7_1
                try clear hfz13_0
                try clear hfz13_1
                try clear hfz13_2
                try clear hfz13_3
                try clear hfz13_4
                try clear hfz13_5
                try clear hfz13_6
                try clear hfz16_0
                try clear hfz16_1
                try clear hfz5_0
                try clear hfz5_1
                try clear hfz7_0
                try clear hfz7_1
                try clear hx122_0
                try clear hx122_1
                try clear hx122_2
                try clear hx122_3
                try clear hx122_4
                try clear hx122_5
                try clear hx122_6
                try clear p122
                try clear p2
                try clear q122
                obtain ⟨x6_2, x34_2, rfl, HA, HK2, HO_3, HO_6, BK120, BK123, HB⟩ := hrel
                cases gk with
                | zero => exact absurd HA.out (by simp [spec_SelfTimes.l1])
                | succ k2 =>
                  have H := HA.out
                  clear HA
                  simp only [spec_SelfTimes.l1] at H
                  by_cases c17 : x34_2 < (l0_1.length : Int)
                  · rw [if_pos c17] at H
                    have c17b0 : decide (x34_2 < (l0_1.length : Int)) = true := decide_eq_true c17
                    clear c17
                    by_cases c18 : 0 ≤ x34_2
                    · rw [if_pos c18] at H
                      have c18b0 : decide (0 ≤ x34_2) = true := decide_eq_true c18
                      clear c18
                      by_cases c19 : x34_2 < (l0_1.length : Int)
                      · rw [if_pos c19] at H
                        have c19b0 : decide (x34_2 < (l0_1.length : Int)) = true := decide_eq_true c19
                        clear c19
                        by_cases c20 : ((rd_T40 l0_1 x34_2).f1) = ((rd_T40 l0_1 x21_1).f0)
                        · rw [if_pos c20] at H
                          have c20b0 : (((rd_T40 l0_1 x34_2).f1) == ((rd_T40 l0_1 x21_1).f0)) = true := beq_iff_eq.mpr c20
                          have c20b1 : (((rd_T40 l0_1 x34_2).f1) != ((rd_T40 l0_1 x21_1).f0)) = false := bne_eq_false_iff_eq.mpr c20
                          clear c20
                          have H' := Aside0.mk H
                          clear H
                          have p127 : 0 ≤ (x34_2 : Int) := of_decide_eq_true (by first | (with_reducible assumption) | assumption)
                          have q127 : x34_2 < (l0_1.length : Int) := of_decide_eq_true (by first | (with_reducible assumption) | assumption)
                          obtain ⟨ad127, e127, hx127_0, hx127_1, hx127_2, hx127_3, hx127_4, hx127_5, hx127_6⟩ := at_T40 HR0_1.out x34_2 p127 q127
                          obtain rfl : ad122 = ad127 := (by injection e127)
                          replace hx127_0 := (HB.out.cell (World.block_lt_of_cell? w _ hx127_0)).trans hx127_0
                          replace hx127_1 := (HB.out.cell (World.block_lt_of_cell? w _ hx127_1)).trans hx127_1
                          replace hx127_2 := (HB.out.cell (World.block_lt_of_cell? w _ hx127_2)).trans hx127_2
                          replace hx127_3 := (HB.out.cell (World.block_lt_of_cell? w _ hx127_3)).trans hx127_3
                          replace hx127_4 := (HB.out.cell (World.block_lt_of_cell? w _ hx127_4)).trans hx127_4
                          replace hx127_5 := (HB.out.cell (World.block_lt_of_cell? w _ hx127_5)).trans hx127_5
                          replace hx127_6 := (HB.out.cell (World.block_lt_of_cell? w _ hx127_6)).trans hx127_6
                          replace p127 := eq_true p127
                          replace q127 := eq_true q127
                          go_wp2_with (first | ((with_reducible refine gate_dst (N := 8) rfl ?_); refine box_event ?hg (N := 8) ?hd (cs := #[.int .i64 0, .int .i64 0, .string (⟨#[]⟩ : ByteArray), .string (⟨#[]⟩ : ByteArray), .int .i64 0, .int .i64 0, .bool false]) (t := 40) ?hr ?_; (case hd => rfl); (case hg => rfl); (case hr => first | (go_simp; done) | (go_simp; rfl)); intro gb128 hg w21 hbox hb; have n0_ := Aside0.mk (Kd.R_below (by (with_reducible repeat (first | apply Kd.R_alloc | apply Kd.R_drewN | apply Kd.R_drew)); exact HO_3.out) hb); have n1_ := Aside0.mk (Kd.R_below (by (with_reducible repeat (first | apply Kd.R_alloc | apply Kd.R_drewN | apply Kd.R_drew)); exact HO_6.out) hb); have n2_ := Aside0.mk (blk_below (g := gb120) (o := .cells #[.int .i64 a0_0, .slice (some ad122) l0_1.length c0_1] 30 (0, 0)) (by (with_reducible repeat (first | refine blk_drewN ?_ _ | refine blk_drew ?_ | refine blk_alloc ?_ _)); exact BK120.out) hb); have n3_ := Aside0.mk (blk_below (g := gb123) (o := .cells #[.int .i64 ((rd_T40 l0_1 x21_1).f0), .int .i64 ((rd_T40 l0_1 x21_1).f1), .string ((rd_T40 l0_1 x21_1).f2), .string ((rd_T40 l0_1 x21_1).f3), .int .i64 ((rd_T40 l0_1 x21_1).f4), .int .i64 ((rd_T40 l0_1 x21_1).f5), .bool ((rd_T40 l0_1 x21_1).f6)] 40 (0, 0)) (by (with_reducible repeat (first | refine blk_drewN ?_ _ | refine blk_drew ?_ | refine blk_alloc ?_ _)); exact BK123.out) hb); have n4_ := Aside0.mk (below_step (by repeat (first | (with_reducible first | exact HB.out | apply below_alloc | apply pw_below_drewN | apply below_drew1 | refine below_set ?_ GE120.out | refine below_set ?_ GE123.out) | exact HB.out)) hb); have n5_ := Aside0.mk (hbox); have n6_ := Aside0.mk ((by rw [hg]; exact (below_size (by repeat (first | (with_reducible first | exact HB.out | apply below_alloc | apply pw_below_drewN | apply below_drew1 | refine below_set ?_ GE120.out | refine below_set ?_ GE123.out) | exact HB.out))) : w.heap.size ≤ gb128)); have n7_ := Aside0.mk ((by rw [hg]; exact (below_size (by repeat (first | (with_reducible first | exact HB.out | apply below_alloc | apply pw_below_drewN | apply below_drew1 | refine below_set ?_ GE120.out | refine below_set ?_ GE123.out) | exact HB.out))) : w.heap.size ≤ gb128)); have n8_ := Aside0.mk ((by rw [hg]; exact Nat.ne_of_lt (blk_lt (g := gb120) (o := .cells #[.int .i64 a0_0, .slice (some ad122) l0_1.length c0_1] 30 (0, 0)) (by (with_reducible repeat (first | refine blk_drewN ?_ _ | refine blk_drew ?_ | refine blk_alloc ?_ _)); exact BK120.out)) : gb120 ≠ gb128)); have n9_ := Aside0.mk ((by rw [hg]; exact Nat.ne_of_gt (blk_lt (g := gb120) (o := .cells #[.int .i64 a0_0, .slice (some ad122) l0_1.length c0_1] 30 (0, 0)) (by (with_reducible repeat (first | refine blk_drewN ?_ _ | refine blk_drew ?_ | refine blk_alloc ?_ _)); exact BK120.out)) : gb128 ≠ gb120)); have n10_ := Aside0.mk ((by rw [hg]; exact Nat.ne_of_lt (blk_lt (g := gb123) (o := .cells #[.int .i64 ((rd_T40 l0_1 x21_1).f0), .int .i64 ((rd_T40 l0_1 x21_1).f1), .string ((rd_T40 l0_1 x21_1).f2), .string ((rd_T40 l0_1 x21_1).f3), .int .i64 ((rd_T40 l0_1 x21_1).f4), .int .i64 ((rd_T40 l0_1 x21_1).f5), .bool ((rd_T40 l0_1 x21_1).f6)] 40 (0, 0)) (by (with_reducible repeat (first | refine blk_drewN ?_ _ | refine blk_drew ?_ | refine blk_alloc ?_ _)); exact BK123.out)) : gb123 ≠ gb128)); have n11_ := Aside0.mk ((by rw [hg]; exact Nat.ne_of_gt (blk_lt (g := gb123) (o := .cells #[.int .i64 ((rd_T40 l0_1 x21_1).f0), .int .i64 ((rd_T40 l0_1 x21_1).f1), .string ((rd_T40 l0_1 x21_1).f2), .string ((rd_T40 l0_1 x21_1).f3), .int .i64 ((rd_T40 l0_1 x21_1).f4), .int .i64 ((rd_T40 l0_1 x21_1).f5), .bool ((rd_T40 l0_1 x21_1).f6)] 40 (0, 0)) (by (with_reducible repeat (first | refine blk_drewN ?_ _ | refine blk_drew ?_ | refine blk_alloc ?_ _)); exact BK123.out)) : gb128 ≠ gb123)); clear HO_3; clear HO_6; clear BK120; clear BK123; clear HB; have HO_3 := n0_; have HO_6 := n1_; have BK120 := n2_; have BK123 := n3_; have HB := n4_; have BK128 := n5_; have GW128 := n6_; have GE128 := n7_; have NB120_128 := n8_; have NB128_120 := n9_; have NB123_128 := n10_; have NB128_123 := n11_; clear n0_ n1_ n2_ n3_ n4_ n5_ n6_ n7_ n8_ n9_ n10_ n11_; clear hb hbox hg; have hnb22 := NB128_120.out; have hnc22 := NB120_128.out; have hnb23 := NB128_123.out; have hnc23 := NB123_128.out; have hcz24_0 : w21.cell? ⟨gb128, 0, none⟩ = some (.int .i64 0) := (blk_cell BK128.out 0).trans rfl; have hcz24_1 : w21.cell? ⟨gb128, 1, none⟩ = some (.int .i64 0) := (blk_cell BK128.out 1).trans rfl; have hcz24_2 : w21.cell? ⟨gb128, 2, none⟩ = some (.string (⟨#[]⟩ : ByteArray)) := (blk_cell BK128.out 2).trans rfl; have hcz24_3 : w21.cell? ⟨gb128, 3, none⟩ = some (.string (⟨#[]⟩ : ByteArray)) := (blk_cell BK128.out 3).trans rfl; have hcz24_4 : w21.cell? ⟨gb128, 4, none⟩ = some (.int .i64 0) := (blk_cell BK128.out 4).trans rfl; have hcz24_5 : w21.cell? ⟨gb128, 5, none⟩ = some (.int .i64 0) := (blk_cell BK128.out 5).trans rfl; have hcz24_6 : w21.cell? ⟨gb128, 6, none⟩ = some (.bool false) := (blk_cell BK128.out 6).trans rfl; have hfz24_0 := blk_frozen BK128.out 0; have hfz24_1 := blk_frozen BK128.out 1; have hfz24_2 := blk_frozen BK128.out 2; have hfz24_3 := blk_frozen BK128.out 3; have hfz24_4 := blk_frozen BK128.out 4; have hfz24_5 := blk_frozen BK128.out 5; have hfz24_6 := blk_frozen BK128.out 6; have hnb25 := NB123_120.out; have hnc25 := NB120_123.out; have hcz26_0 : w21.cell? ⟨gb123, 0, none⟩ = some (.int .i64 ((rd_T40 l0_1 x21_1).f0)) := (blk_cell BK123.out 0).trans rfl; have hcz26_1 : w21.cell? ⟨gb123, 1, none⟩ = some (.int .i64 ((rd_T40 l0_1 x21_1).f1)) := (blk_cell BK123.out 1).trans rfl; have hcz26_2 : w21.cell? ⟨gb123, 2, none⟩ = some (.string ((rd_T40 l0_1 x21_1).f2)) := (blk_cell BK123.out 2).trans rfl; have hcz26_3 : w21.cell? ⟨gb123, 3, none⟩ = some (.string ((rd_T40 l0_1 x21_1).f3)) := (blk_cell BK123.out 3).trans rfl; have hcz26_4 : w21.cell? ⟨gb123, 4, none⟩ = some (.int .i64 ((rd_T40 l0_1 x21_1).f4)) := (blk_cell BK123.out 4).trans rfl; have hcz26_5 : w21.cell? ⟨gb123, 5, none⟩ = some (.int .i64 ((rd_T40 l0_1 x21_1).f5)) := (blk_cell BK123.out 5).trans rfl; have hcz26_6 : w21.cell? ⟨gb123, 6, none⟩ = some (.bool ((rd_T40 l0_1 x21_1).f6)) := (blk_cell BK123.out 6).trans rfl; have hfz26_0 := blk_frozen BK123.out 0; have hfz26_1 := blk_frozen BK123.out 1; have hfz26_2 := blk_frozen BK123.out 2; have hfz26_3 := blk_frozen BK123.out 3; have hfz26_4 := blk_frozen BK123.out 4; have hfz26_5 := blk_frozen BK123.out 5; have hfz26_6 := blk_frozen BK123.out 6; obtain ⟨Ao27, co27, eo27⟩ := Kd.R_slice HO_6.out; subst eo27))
                          go_loopg [9, 45] k2 (fun kq v9 v45 w' => ∃ (x9_3 : List (S42)) (x45_3 : Int), v45 = .int .i64 x45_3 ∧ Aside0 (spec_SelfTimes.l2 kq x3_1 x9_3 l0_1 (l0_1.length : Int) x21_1 l0_1 (l0_1.length : Int) x34_2 x6_2 (x6_2.length : Int) x45_3 a0_0 l0_1 ((rd_T40 l0_1 x21_1).f0) ((rd_T40 l0_1 x21_1).f1) ((rd_T40 l0_1 x21_1).f2) ((rd_T40 l0_1 x21_1).f3) ((rd_T40 l0_1 x21_1).f4) ((rd_T40 l0_1 x21_1).f5) ((rd_T40 l0_1 x21_1).f6) ((rd_T40 l0_1 x34_2).f0) ((rd_T40 l0_1 x34_2).f1) ((rd_T40 l0_1 x34_2).f2) ((rd_T40 l0_1 x34_2).f3) ((rd_T40 l0_1 x34_2).f4) ((rd_T40 l0_1 x34_2).f5) ((rd_T40 l0_1 x34_2).f6) = some r) ∧ Aside0 (kq ≤ k2) ∧ Aside0 (Kd.R (Kd.int .i64) 3 w' w.heap.size (fun _ => True) u3 x3_1) ∧ Aside0 (Kd.R k42 42 w' w.heap.size (fun k_ => some k_ ≠ ((.slice Ao27 x6_2.length co27) : Value).ownBlock) v9 x9_3) ∧ Aside0 (Kd.R k42 42 w' w.heap.size (fun k_ => some k_ ≠ (v9 : Value).ownBlock) (.slice Ao27 x6_2.length co27) x6_2) ∧ Aside0 (w'.heap[gb120]? = some (.cells #[.int .i64 a0_0, (.slice (some ad122) l0_1.length c0_1)] 30 (0, 0))) ∧ Aside0 (w'.heap[gb123]? = some (.cells #[.int .i64 ((rd_T40 l0_1 x21_1).f0), .int .i64 ((rd_T40 l0_1 x21_1).f1), .string ((rd_T40 l0_1 x21_1).f2), .string ((rd_T40 l0_1 x21_1).f3), .int .i64 ((rd_T40 l0_1 x21_1).f4), .int .i64 ((rd_T40 l0_1 x21_1).f5), .bool ((rd_T40 l0_1 x21_1).f6)] 40 (0, 0))) ∧ Aside0 (w'.heap[gb128]? = some (.cells #[.int .i64 ((rd_T40 l0_1 x34_2).f0), .int .i64 ((rd_T40 l0_1 x34_2).f1), .string ((rd_T40 l0_1 x34_2).f2), .string ((rd_T40 l0_1 x34_2).f3), .int .i64 ((rd_T40 l0_1 x34_2).f4), .int .i64 ((rd_T40 l0_1 x34_2).f5), .bool ((rd_T40 l0_1 x34_2).f6)] 40 (0, 0))) ∧ Aside0 (Below w.heap.size w w'))
                          case atStart => exact ⟨(([] : List (S42))), (0), (by first | rfl | (simp; done) | (simp [*]; done)), H', ⟨Nat.le_refl _⟩, ⟨by (with_reducible repeat (first | apply Kd.R_alloc | apply Kd.R_drewN | apply Kd.R_drew)); exact Kd.R_mono (Kd.R_far (p := ⟨gb128, 6, none⟩) (Kd.R_far (p := ⟨gb128, 5, none⟩) (Kd.R_far (p := ⟨gb128, 4, none⟩) (Kd.R_far (p := ⟨gb128, 3, none⟩) (Kd.R_far (p := ⟨gb128, 2, none⟩) (Kd.R_far (p := ⟨gb128, 1, none⟩) (Kd.R_far (p := ⟨gb128, 0, none⟩) (Kd.R_types HO_3.out BK128.out (by decide)) (fun _ hk => hk.2) (.int .i64 ((rd_T40 l0_1 x34_2).f0))) (fun _ hk => hk.2) (.int .i64 ((rd_T40 l0_1 x34_2).f1))) (fun _ hk => hk.2) (.string ((rd_T40 l0_1 x34_2).f2))) (fun _ hk => hk.2) (.string ((rd_T40 l0_1 x34_2).f3))) (fun _ hk => hk.2) (.int .i64 ((rd_T40 l0_1 x34_2).f4))) (fun _ hk => hk.2) (.int .i64 ((rd_T40 l0_1 x34_2).f5))) (fun _ hk => hk.2) (.bool ((rd_T40 l0_1 x34_2).f6))) (fun _ hk => trivial)⟩, ⟨by first | exact Kd.R_nil _ _ _ _ _ | exact Kd.N_nil _ _ _ _ _ | exact Kd.V_nil _ _ _ _ _ | exact Kd.Q_nil _ _ _ _ _ | exact Kd.S_nil _ _ _ _ _⟩, ⟨by (with_reducible repeat (first | apply Kd.R_alloc | apply Kd.R_drewN | apply Kd.R_drew)); exact Kd.R_mono (Kd.R_far (p := ⟨gb128, 6, none⟩) (Kd.R_far (p := ⟨gb128, 5, none⟩) (Kd.R_far (p := ⟨gb128, 4, none⟩) (Kd.R_far (p := ⟨gb128, 3, none⟩) (Kd.R_far (p := ⟨gb128, 2, none⟩) (Kd.R_far (p := ⟨gb128, 1, none⟩) (Kd.R_far (p := ⟨gb128, 0, none⟩) (Kd.R_types HO_6.out BK128.out (by decide)) (fun _ hk => hk.2) (.int .i64 ((rd_T40 l0_1 x34_2).f0))) (fun _ hk => hk.2) (.int .i64 ((rd_T40 l0_1 x34_2).f1))) (fun _ hk => hk.2) (.string ((rd_T40 l0_1 x34_2).f2))) (fun _ hk => hk.2) (.string ((rd_T40 l0_1 x34_2).f3))) (fun _ hk => hk.2) (.int .i64 ((rd_T40 l0_1 x34_2).f4))) (fun _ hk => hk.2) (.int .i64 ((rd_T40 l0_1 x34_2).f5))) (fun _ hk => hk.2) (.bool ((rd_T40 l0_1 x34_2).f6))) (fun _ hk => (by simp [Value.ownBlock]))⟩, ⟨by (with_reducible repeat (first | refine blk_drewN ?_ _ | refine blk_drew ?_ | refine blk_alloc ?_ _)); refine blk_far ?_ NB120_128.out _; (with_reducible repeat (first | refine blk_drewN ?_ _ | refine blk_drew ?_ | refine blk_alloc ?_ _)); refine blk_far ?_ NB120_128.out _; (with_reducible repeat (first | refine blk_drewN ?_ _ | refine blk_drew ?_ | refine blk_alloc ?_ _)); refine blk_far ?_ NB120_128.out _; (with_reducible repeat (first | refine blk_drewN ?_ _ | refine blk_drew ?_ | refine blk_alloc ?_ _)); refine blk_far ?_ NB120_128.out _; (with_reducible repeat (first | refine blk_drewN ?_ _ | refine blk_drew ?_ | refine blk_alloc ?_ _)); refine blk_far ?_ NB120_128.out _; (with_reducible repeat (first | refine blk_drewN ?_ _ | refine blk_drew ?_ | refine blk_alloc ?_ _)); refine blk_far ?_ NB120_128.out _; (with_reducible repeat (first | refine blk_drewN ?_ _ | refine blk_drew ?_ | refine blk_alloc ?_ _)); refine blk_far ?_ NB120_128.out _; (with_reducible repeat (first | refine blk_drewN ?_ _ | refine blk_drew ?_ | refine blk_alloc ?_ _)); exact BK120.out⟩, ⟨by (with_reducible repeat (first | refine blk_drewN ?_ _ | refine blk_drew ?_ | refine blk_alloc ?_ _)); refine blk_far ?_ NB123_128.out _; (with_reducible repeat (first | refine blk_drewN ?_ _ | refine blk_drew ?_ | refine blk_alloc ?_ _)); refine blk_far ?_ NB123_128.out _; (with_reducible repeat (first | refine blk_drewN ?_ _ | refine blk_drew ?_ | refine blk_alloc ?_ _)); refine blk_far ?_ NB123_128.out _; (with_reducible repeat (first | refine blk_drewN ?_ _ | refine blk_drew ?_ | refine blk_alloc ?_ _)); refine blk_far ?_ NB123_128.out _; (with_reducible repeat (first | refine blk_drewN ?_ _ | refine blk_drew ?_ | refine blk_alloc ?_ _)); refine blk_far ?_ NB123_128.out _; (with_reducible repeat (first | refine blk_drewN ?_ _ | refine blk_drew ?_ | refine blk_alloc ?_ _)); refine blk_far ?_ NB123_128.out _; (with_reducible repeat (first | refine blk_drewN ?_ _ | refine blk_drew ?_ | refine blk_alloc ?_ _)); refine blk_far ?_ NB123_128.out _; (with_reducible repeat (first | refine blk_drewN ?_ _ | refine blk_drew ?_ | refine blk_alloc ?_ _)); exact BK123.out⟩, ⟨by (with_reducible repeat (first | refine blk_drewN ?_ _ | refine blk_drew ?_ | refine blk_alloc ?_ _)); refine blk_put (cs := #[.int .i64 ((rd_T40 l0_1 x34_2).f0), .int .i64 ((rd_T40 l0_1 x34_2).f1), .string ((rd_T40 l0_1 x34_2).f2), .string ((rd_T40 l0_1 x34_2).f3), .int .i64 ((rd_T40 l0_1 x34_2).f4), .int .i64 ((rd_T40 l0_1 x34_2).f5), .bool false]) ?_ 6 _ rfl; (with_reducible repeat (first | refine blk_drewN ?_ _ | refine blk_drew ?_ | refine blk_alloc ?_ _)); refine blk_put (cs := #[.int .i64 ((rd_T40 l0_1 x34_2).f0), .int .i64 ((rd_T40 l0_1 x34_2).f1), .string ((rd_T40 l0_1 x34_2).f2), .string ((rd_T40 l0_1 x34_2).f3), .int .i64 ((rd_T40 l0_1 x34_2).f4), .int .i64 0, .bool false]) ?_ 5 _ rfl; (with_reducible repeat (first | refine blk_drewN ?_ _ | refine blk_drew ?_ | refine blk_alloc ?_ _)); refine blk_put (cs := #[.int .i64 ((rd_T40 l0_1 x34_2).f0), .int .i64 ((rd_T40 l0_1 x34_2).f1), .string ((rd_T40 l0_1 x34_2).f2), .string ((rd_T40 l0_1 x34_2).f3), .int .i64 0, .int .i64 0, .bool false]) ?_ 4 _ rfl; (with_reducible repeat (first | refine blk_drewN ?_ _ | refine blk_drew ?_ | refine blk_alloc ?_ _)); refine blk_put (cs := #[.int .i64 ((rd_T40 l0_1 x34_2).f0), .int .i64 ((rd_T40 l0_1 x34_2).f1), .string ((rd_T40 l0_1 x34_2).f2), .string (⟨#[]⟩ : ByteArray), .int .i64 0, .int .i64 0, .bool false]) ?_ 3 _ rfl; (with_reducible repeat (first | refine blk_drewN ?_ _ | refine blk_drew ?_ | refine blk_alloc ?_ _)); refine blk_put (cs := #[.int .i64 ((rd_T40 l0_1 x34_2).f0), .int .i64 ((rd_T40 l0_1 x34_2).f1), .string (⟨#[]⟩ : ByteArray), .string (⟨#[]⟩ : ByteArray), .int .i64 0, .int .i64 0, .bool false]) ?_ 2 _ rfl; (with_reducible repeat (first | refine blk_drewN ?_ _ | refine blk_drew ?_ | refine blk_alloc ?_ _)); refine blk_put (cs := #[.int .i64 ((rd_T40 l0_1 x34_2).f0), .int .i64 0, .string (⟨#[]⟩ : ByteArray), .string (⟨#[]⟩ : ByteArray), .int .i64 0, .int .i64 0, .bool false]) ?_ 1 _ rfl; (with_reducible repeat (first | refine blk_drewN ?_ _ | refine blk_drew ?_ | refine blk_alloc ?_ _)); refine blk_put (cs := #[.int .i64 0, .int .i64 0, .string (⟨#[]⟩ : ByteArray), .string (⟨#[]⟩ : ByteArray), .int .i64 0, .int .i64 0, .bool false]) ?_ 0 _ rfl; (with_reducible repeat (first | refine blk_drewN ?_ _ | refine blk_drew ?_ | refine blk_alloc ?_ _)); exact BK128.out⟩, ⟨by repeat (first | (with_reducible first | exact HB.out | apply below_alloc | apply pw_below_drewN | apply below_drew1 | refine below_set ?_ GE120.out | refine below_set ?_ GE123.out | refine below_set ?_ GE128.out) | exact HB.out)⟩⟩
                          case round =>
                            clear H'
                            try clear c1
                            try clear p1
                            try clear q1
                            try clear hx1
                            try clear c2
                            try clear p2
                            try clear c3
                            try clear c5
                            try clear c8
                            try clear c8b0
                            try clear c9
                            try clear c9b0
                            try clear c10
                            try clear c10b0
                            try clear c12
                            try clear p12
                            try clear q12
                            try clear hx12
                            try clear c14
                            try clear c17
                            try clear c17b0
                            try clear c18
                            try clear c18b0
                            try clear c19
                            try clear c19b0
                            try clear c20
                            try clear c20b0
                            try clear c20b1
                            try clear c22
                            try clear c23
                            try clear c25
                            try clear hcz13_0
                            try clear hcz13_1
                            try clear hcz13_2
                            try clear hcz13_3
                            try clear hcz13_4
                            try clear hcz13_5
                            try clear hcz13_6
                            try clear hcz16_0
                            try clear hcz16_1
                            try clear hcz24_0
                            try clear hcz24_1
                            try clear hcz24_2
                            try clear hcz24_3
                            try clear hcz24_4
                            try clear hcz24_5
                            try clear hcz24_6
                            try clear hcz26_0
                            try clear hcz26_1
                            try clear hcz26_2
                            try clear hcz26_3
                            try clear hcz26_4
                            try clear hcz26_5
                            try clear hcz26_6
                            try clear hcz5_0
                            try clear hcz5_1
                            try clear hcz7_0
                            try clear hcz7_1
                            try clear hfz13_0
                            try clear hfz13_1
                            try clear hfz13_2
                            try clear hfz13_3
                            try clear hfz13_4
                            try clear hfz13_5
                            try clear hfz13_6
                            try clear hfz16_0
                            try clear hfz16_1
                            try clear hfz24_0
                            try clear hfz24_1
                            try clear hfz24_2
                            try clear hfz24_3
                            try clear hfz24_4
                            try clear hfz24_5
                            try clear hfz24_6
                            try clear hfz26_0
                            try clear hfz26_1
                            try clear hfz26_2
                            try clear hfz26_3
                            try clear hfz26_4
                            try clear hfz26_5
                            try clear hfz26_6
                            try clear hfz5_0
                            try clear hfz5_1
                            try clear hfz7_0
                            try clear hfz7_1
                            try clear hx122_0
                            try clear hx122_1
                            try clear hx122_2
                            try clear hx122_3
                            try clear hx122_4
                            try clear hx122_5
                            try clear hx122_6
                            try clear hx127_0
                            try clear hx127_1
                            try clear hx127_2
                            try clear hx127_3
                            try clear hx127_4
                            try clear hx127_5
                            try clear hx127_6
                            try clear p1
                            try clear p12
                            try clear p122
                            try clear p127
                            try clear p2
                            try clear q1
                            try clear q12
                            try clear q122
                            try clear q127
                            obtain ⟨x9_3, x45_3, rfl, HA, HK3, HO_3, HO_9, HO_43, BK120, BK123, BK128, HB⟩ := hrel
                            cases gk with
                            | zero => exact absurd HA.out (by simp [spec_SelfTimes.l2])
                            | succ k3 =>
                              have H := HA.out
                              clear HA
                              simp only [spec_SelfTimes.l2] at H
                              by_cases c28 : x45_3 < (x6_2.length : Int)
                              · rw [if_pos c28] at H
                                have c28b0 : decide (x45_3 < (x6_2.length : Int)) = true := decide_eq_true c28
                                clear c28
                                by_cases c29 : 0 ≤ x45_3
                                · rw [if_pos c29] at H
                                  have c29b0 : decide (0 ≤ x45_3) = true := decide_eq_true c29
                                  clear c29
                                  by_cases c30 : x45_3 < (x6_2.length : Int)
                                  · rw [if_pos c30] at H
                                    have c30b0 : decide (x45_3 < (x6_2.length : Int)) = true := decide_eq_true c30
                                    clear c30
                                    by_cases c31 : ((rd_T40 l0_1 x34_2).f4) > ((rd_T42 x6_2 x45_3).f0)
                                    · rw [if_pos c31] at H
                                      have c31b0 : decide (((rd_T42 x6_2 x45_3).f0) < ((rd_T40 l0_1 x34_2).f4)) = true := decide_eq_true c31
                                      clear c31
                                      replace H := Option.bind_eq_some_iff.mp H
                                      obtain ⟨t131, A320, H⟩ := H
                                      replace H : (if x9_3.length < 8796093022208 then ((some (x9_3 ++ [(⟨(rd_T42 x6_2 x45_3).f0, t131⟩ : S42)] : List (S42))).bind fun y132 => (if ((rd_T40 l0_1 x34_2).f5) < ((rd_T42 x6_2 x45_3).f1) then ((spec_l23More.f ((rd_T42 x6_2 x45_3).f0) ((rd_T40 l0_1 x34_2).f5)).bind fun t135 => (if y132.length < 8796093022208 then (spec_SelfTimes.l2 k3 x3_1 (y132 ++ [(⟨t135, (rd_T42 x6_2 x45_3).f1⟩ : S42)]) l0_1 (l0_1.length : Int) x21_1 l0_1 (l0_1.length : Int) x34_2 x6_2 (x6_2.length : Int) (wrap64 (x45_3 + 1)) a0_0 l0_1 ((rd_T40 l0_1 x21_1).f0) ((rd_T40 l0_1 x21_1).f1) ((rd_T40 l0_1 x21_1).f2) ((rd_T40 l0_1 x21_1).f3) ((rd_T40 l0_1 x21_1).f4) ((rd_T40 l0_1 x21_1).f5) ((rd_T40 l0_1 x21_1).f6) ((rd_T40 l0_1 x34_2).f0) ((rd_T40 l0_1 x34_2).f1) ((rd_T40 l0_1 x34_2).f2) ((rd_T40 l0_1 x34_2).f3) ((rd_T40 l0_1 x34_2).f4) ((rd_T40 l0_1 x34_2).f5) ((rd_T40 l0_1 x34_2).f6)) else (none))) else (spec_SelfTimes.l2 k3 x3_1 y132 l0_1 (l0_1.length : Int) x21_1 l0_1 (l0_1.length : Int) x34_2 x6_2 (x6_2.length : Int) (wrap64 (x45_3 + 1)) a0_0 l0_1 ((rd_T40 l0_1 x21_1).f0) ((rd_T40 l0_1 x21_1).f1) ((rd_T40 l0_1 x21_1).f2) ((rd_T40 l0_1 x21_1).f3) ((rd_T40 l0_1 x21_1).f4) ((rd_T40 l0_1 x21_1).f5) ((rd_T40 l0_1 x21_1).f6) ((rd_T40 l0_1 x34_2).f0) ((rd_T40 l0_1 x34_2).f1) ((rd_T40 l0_1 x34_2).f2) ((rd_T40 l0_1 x34_2).f3) ((rd_T40 l0_1 x34_2).f4) ((rd_T40 l0_1 x34_2).f5) ((rd_T40 l0_1 x34_2).f6)))) else (none)) = some r := H
                                      have A32 := Aside0.mk A320
                                      clear A320
                                      by_cases c33 : x9_3.length < 8796093022208
                                      · rw [if_pos c33] at H
                                        have LMc33 := Aside0.mk c33
                                        clear c33
                                        obtain ⟨y132, hy132⟩ : ∃ y_ : List (S42), y_ = (x9_3 ++ [(⟨(rd_T42 x6_2 x45_3).f0, t131⟩ : S42)]) := ⟨_, rfl⟩
                                        replace H : (if ((rd_T40 l0_1 x34_2).f5) < ((rd_T42 x6_2 x45_3).f1) then ((spec_l23More.f ((rd_T42 x6_2 x45_3).f0) ((rd_T40 l0_1 x34_2).f5)).bind fun t135 => (if y132.length < 8796093022208 then (spec_SelfTimes.l2 k3 x3_1 (y132 ++ [(⟨t135, (rd_T42 x6_2 x45_3).f1⟩ : S42)]) l0_1 (l0_1.length : Int) x21_1 l0_1 (l0_1.length : Int) x34_2 x6_2 (x6_2.length : Int) (wrap64 (x45_3 + 1)) a0_0 l0_1 ((rd_T40 l0_1 x21_1).f0) ((rd_T40 l0_1 x21_1).f1) ((rd_T40 l0_1 x21_1).f2) ((rd_T40 l0_1 x21_1).f3) ((rd_T40 l0_1 x21_1).f4) ((rd_T40 l0_1 x21_1).f5) ((rd_T40 l0_1 x21_1).f6) ((rd_T40 l0_1 x34_2).f0) ((rd_T40 l0_1 x34_2).f1) ((rd_T40 l0_1 x34_2).f2) ((rd_T40 l0_1 x34_2).f3) ((rd_T40 l0_1 x34_2).f4) ((rd_T40 l0_1 x34_2).f5) ((rd_T40 l0_1 x34_2).f6)) else (none))) else (spec_SelfTimes.l2 k3 x3_1 y132 l0_1 (l0_1.length : Int) x21_1 l0_1 (l0_1.length : Int) x34_2 x6_2 (x6_2.length : Int) (wrap64 (x45_3 + 1)) a0_0 l0_1 ((rd_T40 l0_1 x21_1).f0) ((rd_T40 l0_1 x21_1).f1) ((rd_T40 l0_1 x21_1).f2) ((rd_T40 l0_1 x21_1).f3) ((rd_T40 l0_1 x21_1).f4) ((rd_T40 l0_1 x21_1).f5) ((rd_T40 l0_1 x21_1).f6) ((rd_T40 l0_1 x34_2).f0) ((rd_T40 l0_1 x34_2).f1) ((rd_T40 l0_1 x34_2).f2) ((rd_T40 l0_1 x34_2).f3) ((rd_T40 l0_1 x34_2).f4) ((rd_T40 l0_1 x34_2).f5) ((rd_T40 l0_1 x34_2).f6))) = some r := by first | (rw [hy132]; with_reducible exact H) | (have H2_ := (Option.bind_some _ _).symm.trans H; rw [hy132]; with_reducible exact H2_) | (have H2_ := (Option.bind_some _ _).symm.trans H; with_reducible exact H2_) | with_reducible exact H | (rw [hy132]; exact H) | exact H
                                        have Ny132 := Aside0.mk hy132
                                        clear hy132
                                        by_cases c34 : ((rd_T40 l0_1 x34_2).f5) < ((rd_T42 x6_2 x45_3).f1)
                                        · rw [if_pos c34] at H
                                          have c34b0 : decide (((rd_T40 l0_1 x34_2).f5) < ((rd_T42 x6_2 x45_3).f1)) = true := decide_eq_true c34
                                          clear c34
                                          replace H := Option.bind_eq_some_iff.mp H
                                          obtain ⟨t135, A350, H⟩ := H
                                          replace H : (if y132.length < 8796093022208 then (spec_SelfTimes.l2 k3 x3_1 (y132 ++ [(⟨t135, (rd_T42 x6_2 x45_3).f1⟩ : S42)]) l0_1 (l0_1.length : Int) x21_1 l0_1 (l0_1.length : Int) x34_2 x6_2 (x6_2.length : Int) (wrap64 (x45_3 + 1)) a0_0 l0_1 ((rd_T40 l0_1 x21_1).f0) ((rd_T40 l0_1 x21_1).f1) ((rd_T40 l0_1 x21_1).f2) ((rd_T40 l0_1 x21_1).f3) ((rd_T40 l0_1 x21_1).f4) ((rd_T40 l0_1 x21_1).f5) ((rd_T40 l0_1 x21_1).f6) ((rd_T40 l0_1 x34_2).f0) ((rd_T40 l0_1 x34_2).f1) ((rd_T40 l0_1 x34_2).f2) ((rd_T40 l0_1 x34_2).f3) ((rd_T40 l0_1 x34_2).f4) ((rd_T40 l0_1 x34_2).f5) ((rd_T40 l0_1 x34_2).f6)) else (none)) = some r := H
                                          have A35 := Aside0.mk A350
                                          clear A350
                                          by_cases c36 : y132.length < 8796093022208
                                          · rw [if_pos c36] at H
                                            have LMc36 := Aside0.mk c36
                                            clear c36
                                            obtain ⟨y136, hy136⟩ : ∃ y_ : List (S42), y_ = (y132 ++ [(⟨t135, (rd_T42 x6_2 x45_3).f1⟩ : S42)]) := ⟨_, rfl⟩
                                            replace H : (spec_SelfTimes.l2 k3 x3_1 y136 l0_1 (l0_1.length : Int) x21_1 l0_1 (l0_1.length : Int) x34_2 x6_2 (x6_2.length : Int) (wrap64 (x45_3 + 1)) a0_0 l0_1 ((rd_T40 l0_1 x21_1).f0) ((rd_T40 l0_1 x21_1).f1) ((rd_T40 l0_1 x21_1).f2) ((rd_T40 l0_1 x21_1).f3) ((rd_T40 l0_1 x21_1).f4) ((rd_T40 l0_1 x21_1).f5) ((rd_T40 l0_1 x21_1).f6) ((rd_T40 l0_1 x34_2).f0) ((rd_T40 l0_1 x34_2).f1) ((rd_T40 l0_1 x34_2).f2) ((rd_T40 l0_1 x34_2).f3) ((rd_T40 l0_1 x34_2).f4) ((rd_T40 l0_1 x34_2).f5) ((rd_T40 l0_1 x34_2).f6)) = some r := by first | (rw [hy136]; with_reducible exact H) | (have H2_ := (Option.bind_some _ _).symm.trans H; rw [hy136]; with_reducible exact H2_) | (have H2_ := (Option.bind_some _ _).symm.trans H; with_reducible exact H2_) | with_reducible exact H | (rw [hy136]; exact H) | exact H
                                            have Ny136 := Aside0.mk hy136
                                            clear hy136
                                            have H' := Aside0.mk H
                                            clear H
                                            have p129 : 0 ≤ (x45_3 : Int) := of_decide_eq_true (by first | (with_reducible assumption) | assumption)
                                            have q129 : x45_3 < (x6_2.length : Int) := of_decide_eq_true (by first | (with_reducible assumption) | assumption)
                                            obtain ⟨ad129, e129, hx129_0, hx129_1⟩ := at_T42 (Kd.R_reads' HO_43.out).2.2 x45_3 p129 q129
                                            cases e129
                                            replace p129 := eq_true p129
                                            replace q129 := eq_true q129
                                            try go_wp2_with (first | ((with_reducible refine gate_dst (N := 11) rfl ?_); refine box_event ?hg (N := 11) ?hd (cs := #[.int .i64 0, .int .i64 0]) (t := 42) ?hr ?_; (case hd => rfl); (case hg => rfl); (case hr => first | (go_simp; done) | (go_simp; rfl)); intro gb130 hg w37 hbox hb; have n0_ := Aside0.mk (Kd.R_below (by (with_reducible repeat (first | apply Kd.R_alloc | apply Kd.R_drewN | apply Kd.R_drew)); exact HO_3.out) hb); have n1_ := Aside0.mk (Kd.R_below (Kd.R_elderB (by (with_reducible repeat (first | apply Kd.R_alloc | apply Kd.R_drewN | apply Kd.R_drew)); exact HO_9.out) gb130 (Nat.le_of_eq hg.symm)) hb); have n2_ := Aside0.mk (Kd.R_below (Kd.R_elderB (by (with_reducible repeat (first | apply Kd.R_alloc | apply Kd.R_drewN | apply Kd.R_drew)); exact HO_43.out) gb130 (Nat.le_of_eq hg.symm)) hb); have n3_ := Aside0.mk (blk_below (g := gb120) (o := .cells #[.int .i64 a0_0, .slice (some ad122) l0_1.length c0_1] 30 (0, 0)) (by (with_reducible repeat (first | refine blk_drewN ?_ _ | refine blk_drew ?_ | refine blk_alloc ?_ _)); exact BK120.out) hb); have n4_ := Aside0.mk (blk_below (g := gb123) (o := .cells #[.int .i64 ((rd_T40 l0_1 x21_1).f0), .int .i64 ((rd_T40 l0_1 x21_1).f1), .string ((rd_T40 l0_1 x21_1).f2), .string ((rd_T40 l0_1 x21_1).f3), .int .i64 ((rd_T40 l0_1 x21_1).f4), .int .i64 ((rd_T40 l0_1 x21_1).f5), .bool ((rd_T40 l0_1 x21_1).f6)] 40 (0, 0)) (by (with_reducible repeat (first | refine blk_drewN ?_ _ | refine blk_drew ?_ | refine blk_alloc ?_ _)); exact BK123.out) hb); have n5_ := Aside0.mk (blk_below (g := gb128) (o := .cells #[.int .i64 ((rd_T40 l0_1 x34_2).f0), .int .i64 ((rd_T40 l0_1 x34_2).f1), .string ((rd_T40 l0_1 x34_2).f2), .string ((rd_T40 l0_1 x34_2).f3), .int .i64 ((rd_T40 l0_1 x34_2).f4), .int .i64 ((rd_T40 l0_1 x34_2).f5), .bool ((rd_T40 l0_1 x34_2).f6)] 40 (0, 0)) (by (with_reducible repeat (first | refine blk_drewN ?_ _ | refine blk_drew ?_ | refine blk_alloc ?_ _)); exact BK128.out) hb); have n6_ := Aside0.mk (below_step (by repeat (first | (with_reducible first | exact HB.out | apply below_alloc | apply pw_below_drewN | apply below_drew1 | refine below_set ?_ GE120.out | refine below_set ?_ GE123.out | refine below_set ?_ GE128.out) | exact HB.out)) hb); have n7_ := Aside0.mk (hbox); have n8_ := Aside0.mk ((by rw [hg]; exact (below_size (by repeat (first | (with_reducible first | exact HB.out | apply below_alloc | apply pw_below_drewN | apply below_drew1 | refine below_set ?_ GE120.out | refine below_set ?_ GE123.out | refine below_set ?_ GE128.out) | exact HB.out))) : w.heap.size ≤ gb130)); have n9_ := Aside0.mk ((by rw [hg]; exact (below_size (by repeat (first | (with_reducible first | exact HB.out | apply below_alloc | apply pw_below_drewN | apply below_drew1 | refine below_set ?_ GE120.out | refine below_set ?_ GE123.out | refine below_set ?_ GE128.out) | exact HB.out))) : w.heap.size ≤ gb130)); have n10_ := Aside0.mk ((by rw [hg]; exact Nat.ne_of_lt (blk_lt (g := gb120) (o := .cells #[.int .i64 a0_0, .slice (some ad122) l0_1.length c0_1] 30 (0, 0)) (by (with_reducible repeat (first | refine blk_drewN ?_ _ | refine blk_drew ?_ | refine blk_alloc ?_ _)); exact BK120.out)) : gb120 ≠ gb130)); have n11_ := Aside0.mk ((by rw [hg]; exact Nat.ne_of_gt (blk_lt (g := gb120) (o := .cells #[.int .i64 a0_0, .slice (some ad122) l0_1.length c0_1] 30 (0, 0)) (by (with_reducible repeat (first | refine blk_drewN ?_ _ | refine blk_drew ?_ | refine blk_alloc ?_ _)); exact BK120.out)) : gb130 ≠ gb120)); have n12_ := Aside0.mk ((by rw [hg]; exact Nat.ne_of_lt (blk_lt (g := gb123) (o := .cells #[.int .i64 ((rd_T40 l0_1 x21_1).f0), .int .i64 ((rd_T40 l0_1 x21_1).f1), .string ((rd_T40 l0_1 x21_1).f2), .string ((rd_T40 l0_1 x21_1).f3), .int .i64 ((rd_T40 l0_1 x21_1).f4), .int .i64 ((rd_T40 l0_1 x21_1).f5), .bool ((rd_T40 l0_1 x21_1).f6)] 40 (0, 0)) (by (with_reducible repeat (first | refine blk_drewN ?_ _ | refine blk_drew ?_ | refine blk_alloc ?_ _)); exact BK123.out)) : gb123 ≠ gb130)); have n13_ := Aside0.mk ((by rw [hg]; exact Nat.ne_of_gt (blk_lt (g := gb123) (o := .cells #[.int .i64 ((rd_T40 l0_1 x21_1).f0), .int .i64 ((rd_T40 l0_1 x21_1).f1), .string ((rd_T40 l0_1 x21_1).f2), .string ((rd_T40 l0_1 x21_1).f3), .int .i64 ((rd_T40 l0_1 x21_1).f4), .int .i64 ((rd_T40 l0_1 x21_1).f5), .bool ((rd_T40 l0_1 x21_1).f6)] 40 (0, 0)) (by (with_reducible repeat (first | refine blk_drewN ?_ _ | refine blk_drew ?_ | refine blk_alloc ?_ _)); exact BK123.out)) : gb130 ≠ gb123)); have n14_ := Aside0.mk ((by rw [hg]; exact Nat.ne_of_lt (blk_lt (g := gb128) (o := .cells #[.int .i64 ((rd_T40 l0_1 x34_2).f0), .int .i64 ((rd_T40 l0_1 x34_2).f1), .string ((rd_T40 l0_1 x34_2).f2), .string ((rd_T40 l0_1 x34_2).f3), .int .i64 ((rd_T40 l0_1 x34_2).f4), .int .i64 ((rd_T40 l0_1 x34_2).f5), .bool ((rd_T40 l0_1 x34_2).f6)] 40 (0, 0)) (by (with_reducible repeat (first | refine blk_drewN ?_ _ | refine blk_drew ?_ | refine blk_alloc ?_ _)); exact BK128.out)) : gb128 ≠ gb130)); have n15_ := Aside0.mk ((by rw [hg]; exact Nat.ne_of_gt (blk_lt (g := gb128) (o := .cells #[.int .i64 ((rd_T40 l0_1 x34_2).f0), .int .i64 ((rd_T40 l0_1 x34_2).f1), .string ((rd_T40 l0_1 x34_2).f2), .string ((rd_T40 l0_1 x34_2).f3), .int .i64 ((rd_T40 l0_1 x34_2).f4), .int .i64 ((rd_T40 l0_1 x34_2).f5), .bool ((rd_T40 l0_1 x34_2).f6)] 40 (0, 0)) (by (with_reducible repeat (first | refine blk_drewN ?_ _ | refine blk_drew ?_ | refine blk_alloc ?_ _)); exact BK128.out)) : gb130 ≠ gb128)); clear HO_3; clear HO_9; clear HO_43; clear BK120; clear BK123; clear BK128; clear HB; have HO_3 := n0_; have HO_9 := n1_; have HO_43 := n2_; have BK120 := n3_; have BK123 := n4_; have BK128 := n5_; have HB := n6_; have BK130 := n7_; have GW130 := n8_; have GE130 := n9_; have NB120_130 := n10_; have NB130_120 := n11_; have NB123_130 := n12_; have NB130_123 := n13_; have NB128_130 := n14_; have NB130_128 := n15_; clear n0_ n1_ n2_ n3_ n4_ n5_ n6_ n7_ n8_ n9_ n10_ n11_ n12_ n13_ n14_ n15_; clear hb hbox hg; have hnb38 := NB130_120.out; have hnc38 := NB120_130.out; have hnb39 := NB130_123.out; have hnc39 := NB123_130.out; have hnb40 := NB130_128.out; have hnc40 := NB128_130.out; have hcz41_0 : w37.cell? ⟨gb130, 0, none⟩ = some (.int .i64 0) := (blk_cell BK130.out 0).trans rfl; have hcz41_1 : w37.cell? ⟨gb130, 1, none⟩ = some (.int .i64 0) := (blk_cell BK130.out 1).trans rfl; have hfz41_0 := blk_frozen BK130.out 0; have hfz41_1 := blk_frozen BK130.out 1; have hnb42 := NB128_120.out; have hnc42 := NB120_128.out; have hnb43 := NB128_123.out; have hnc43 := NB123_128.out; have hcz44_0 : w37.cell? ⟨gb128, 0, none⟩ = some (.int .i64 ((rd_T40 l0_1 x34_2).f0)) := (blk_cell BK128.out 0).trans rfl; have hcz44_1 : w37.cell? ⟨gb128, 1, none⟩ = some (.int .i64 ((rd_T40 l0_1 x34_2).f1)) := (blk_cell BK128.out 1).trans rfl; have hcz44_2 : w37.cell? ⟨gb128, 2, none⟩ = some (.string ((rd_T40 l0_1 x34_2).f2)) := (blk_cell BK128.out 2).trans rfl; have hcz44_3 : w37.cell? ⟨gb128, 3, none⟩ = some (.string ((rd_T40 l0_1 x34_2).f3)) := (blk_cell BK128.out 3).trans rfl; have hcz44_4 : w37.cell? ⟨gb128, 4, none⟩ = some (.int .i64 ((rd_T40 l0_1 x34_2).f4)) := (blk_cell BK128.out 4).trans rfl; have hcz44_5 : w37.cell? ⟨gb128, 5, none⟩ = some (.int .i64 ((rd_T40 l0_1 x34_2).f5)) := (blk_cell BK128.out 5).trans rfl; have hcz44_6 : w37.cell? ⟨gb128, 6, none⟩ = some (.bool ((rd_T40 l0_1 x34_2).f6)) := (blk_cell BK128.out 6).trans rfl; have hfz44_0 := blk_frozen BK128.out 0; have hfz44_1 := blk_frozen BK128.out 1; have hfz44_2 := blk_frozen BK128.out 2; have hfz44_3 := blk_frozen BK128.out 3; have hfz44_4 := blk_frozen BK128.out 4; have hfz44_5 := blk_frozen BK128.out 5; have hfz44_6 := blk_frozen BK128.out 6))
                                            have n0_ : Aside0 (Kd.R (Kd.int .i64) 3 ((w37.setCell ⟨gb130, 0, none⟩ (.int .i64 ((rd_T42 x6_2 x45_3).f0))).setCell ⟨gb130, 1, none⟩ (.int .i64 ((rd_T42 x6_2 x45_3).f1))) w.heap.size (fun _ => True) u3 x3_1) := ⟨by (with_reducible repeat (first | apply Kd.R_alloc | apply Kd.R_drewN | apply Kd.R_drew)); exact Kd.R_mono (Kd.R_far (p := ⟨gb130, 1, none⟩) (Kd.R_far (p := ⟨gb130, 0, none⟩) (Kd.R_types HO_3.out BK130.out (by decide)) (fun _ hk => hk.2) (.int .i64 ((rd_T42 x6_2 x45_3).f0))) (fun _ hk => hk.2) (.int .i64 ((rd_T42 x6_2 x45_3).f1))) (fun _ hk => trivial)⟩
                                            have n1_ : Aside0 (Kd.R k42 42 ((w37.setCell ⟨gb130, 0, none⟩ (.int .i64 ((rd_T42 x6_2 x45_3).f0))).setCell ⟨gb130, 1, none⟩ (.int .i64 ((rd_T42 x6_2 x45_3).f1))) w.heap.size (fun k_ => some k_ ≠ (.slice (some ad129) x6_2.length co27 : Value).ownBlock ∧ k_ ≠ gb130) u9 x9_3) := ⟨by (with_reducible repeat (first | apply Kd.R_alloc | apply Kd.R_drewN | apply Kd.R_drew)); exact Kd.R_mono (Kd.R_far (p := ⟨gb130, 1, none⟩) (Kd.R_far (p := ⟨gb130, 0, none⟩) (Kd.R_mono HO_9.out (fun k_ hk => (⟨hk, hk.2⟩ : _ ∧ k_ ≠ gb130))) (fun _ hk => hk.2) (.int .i64 ((rd_T42 x6_2 x45_3).f0))) (fun _ hk => hk.2) (.int .i64 ((rd_T42 x6_2 x45_3).f1))) (fun _ hk => ⟨hk.1.1, hk.1.2⟩)⟩
                                            have n2_ : Aside0 (Kd.R k42 42 ((w37.setCell ⟨gb130, 0, none⟩ (.int .i64 ((rd_T42 x6_2 x45_3).f0))).setCell ⟨gb130, 1, none⟩ (.int .i64 ((rd_T42 x6_2 x45_3).f1))) w.heap.size (fun k_ => some k_ ≠ (u9 : Value).ownBlock ∧ k_ ≠ gb130) (.slice (some ad129) x6_2.length co27) x6_2) := ⟨by (with_reducible repeat (first | apply Kd.R_alloc | apply Kd.R_drewN | apply Kd.R_drew)); exact Kd.R_mono (Kd.R_far (p := ⟨gb130, 1, none⟩) (Kd.R_far (p := ⟨gb130, 0, none⟩) (Kd.R_mono HO_43.out (fun k_ hk => (⟨hk, hk.2⟩ : _ ∧ k_ ≠ gb130))) (fun _ hk => hk.2) (.int .i64 ((rd_T42 x6_2 x45_3).f0))) (fun _ hk => hk.2) (.int .i64 ((rd_T42 x6_2 x45_3).f1))) (fun _ hk => ⟨hk.1.1, hk.1.2⟩)⟩
                                            have n3_ : Aside0 (((w37.setCell ⟨gb130, 0, none⟩ (.int .i64 ((rd_T42 x6_2 x45_3).f0))).setCell ⟨gb130, 1, none⟩ (.int .i64 ((rd_T42 x6_2 x45_3).f1))).heap[gb120]? = some (.cells #[.int .i64 a0_0, .slice (some ad122) l0_1.length c0_1] 30 (0, 0))) := ⟨by (with_reducible repeat (first | refine blk_drewN ?_ _ | refine blk_drew ?_ | refine blk_alloc ?_ _)); refine blk_far ?_ NB120_130.out _; (with_reducible repeat (first | refine blk_drewN ?_ _ | refine blk_drew ?_ | refine blk_alloc ?_ _)); refine blk_far ?_ NB120_130.out _; (with_reducible repeat (first | refine blk_drewN ?_ _ | refine blk_drew ?_ | refine blk_alloc ?_ _)); exact BK120.out⟩
                                            have n4_ : Aside0 (((w37.setCell ⟨gb130, 0, none⟩ (.int .i64 ((rd_T42 x6_2 x45_3).f0))).setCell ⟨gb130, 1, none⟩ (.int .i64 ((rd_T42 x6_2 x45_3).f1))).heap[gb123]? = some (.cells #[.int .i64 ((rd_T40 l0_1 x21_1).f0), .int .i64 ((rd_T40 l0_1 x21_1).f1), .string ((rd_T40 l0_1 x21_1).f2), .string ((rd_T40 l0_1 x21_1).f3), .int .i64 ((rd_T40 l0_1 x21_1).f4), .int .i64 ((rd_T40 l0_1 x21_1).f5), .bool ((rd_T40 l0_1 x21_1).f6)] 40 (0, 0))) := ⟨by (with_reducible repeat (first | refine blk_drewN ?_ _ | refine blk_drew ?_ | refine blk_alloc ?_ _)); refine blk_far ?_ NB123_130.out _; (with_reducible repeat (first | refine blk_drewN ?_ _ | refine blk_drew ?_ | refine blk_alloc ?_ _)); refine blk_far ?_ NB123_130.out _; (with_reducible repeat (first | refine blk_drewN ?_ _ | refine blk_drew ?_ | refine blk_alloc ?_ _)); exact BK123.out⟩
                                            have n5_ : Aside0 (((w37.setCell ⟨gb130, 0, none⟩ (.int .i64 ((rd_T42 x6_2 x45_3).f0))).setCell ⟨gb130, 1, none⟩ (.int .i64 ((rd_T42 x6_2 x45_3).f1))).heap[gb128]? = some (.cells #[.int .i64 ((rd_T40 l0_1 x34_2).f0), .int .i64 ((rd_T40 l0_1 x34_2).f1), .string ((rd_T40 l0_1 x34_2).f2), .string ((rd_T40 l0_1 x34_2).f3), .int .i64 ((rd_T40 l0_1 x34_2).f4), .int .i64 ((rd_T40 l0_1 x34_2).f5), .bool ((rd_T40 l0_1 x34_2).f6)] 40 (0, 0))) := ⟨by (with_reducible repeat (first | refine blk_drewN ?_ _ | refine blk_drew ?_ | refine blk_alloc ?_ _)); refine blk_far ?_ NB128_130.out _; (with_reducible repeat (first | refine blk_drewN ?_ _ | refine blk_drew ?_ | refine blk_alloc ?_ _)); refine blk_far ?_ NB128_130.out _; (with_reducible repeat (first | refine blk_drewN ?_ _ | refine blk_drew ?_ | refine blk_alloc ?_ _)); exact BK128.out⟩
                                            have n6_ : Aside0 (((w37.setCell ⟨gb130, 0, none⟩ (.int .i64 ((rd_T42 x6_2 x45_3).f0))).setCell ⟨gb130, 1, none⟩ (.int .i64 ((rd_T42 x6_2 x45_3).f1))).heap[gb130]? = some (.cells #[.int .i64 ((rd_T42 x6_2 x45_3).f0), .int .i64 ((rd_T42 x6_2 x45_3).f1)] 42 (0, 0))) := ⟨by (with_reducible repeat (first | refine blk_drewN ?_ _ | refine blk_drew ?_ | refine blk_alloc ?_ _)); refine blk_put (cs := #[.int .i64 ((rd_T42 x6_2 x45_3).f0), .int .i64 0]) ?_ 1 _ rfl; (with_reducible repeat (first | refine blk_drewN ?_ _ | refine blk_drew ?_ | refine blk_alloc ?_ _)); refine blk_put (cs := #[.int .i64 0, .int .i64 0]) ?_ 0 _ rfl; (with_reducible repeat (first | refine blk_drewN ?_ _ | refine blk_drew ?_ | refine blk_alloc ?_ _)); exact BK130.out⟩
                                            have n7_ : Aside0 (Below w.heap.size w ((w37.setCell ⟨gb130, 0, none⟩ (.int .i64 ((rd_T42 x6_2 x45_3).f0))).setCell ⟨gb130, 1, none⟩ (.int .i64 ((rd_T42 x6_2 x45_3).f1)))) := ⟨by repeat (first | (with_reducible first | exact HB.out | apply below_alloc | apply pw_below_drewN | apply below_drew1 | refine below_set ?_ GE120.out | refine below_set ?_ GE123.out | refine below_set ?_ GE128.out | refine below_set ?_ GE130.out) | exact HB.out)⟩
                                            (try clear HO_3)
                                            (try clear HO_9)
                                            (try clear HO_43)
                                            (try clear BK120)
                                            (try clear BK123)
                                            (try clear BK128)
                                            (try clear BK130)
                                            (try clear HB)
                                            generalize ((w37.setCell ⟨gb130, 0, none⟩ (.int .i64 ((rd_T42 x6_2 x45_3).f0))).setCell ⟨gb130, 1, none⟩ (.int .i64 ((rd_T42 x6_2 x45_3).f1))) = w45 at n0_ n1_ n2_ n3_ n4_ n5_ n6_ n7_ ⊢
                                            have HO_3 := n0_
                                            have HO_9 := n1_
                                            have HO_43 := n2_
                                            have BK120 := n3_
                                            have BK123 := n4_
                                            have BK128 := n5_
                                            have BK130 := n6_
                                            have HB := n7_
                                            clear n0_ n1_ n2_ n3_ n4_ n5_ n6_ n7_
                                            have n0_ := Aside0.mk (Kd.R_drew HO_3.out)
                                            have n1_ := Aside0.mk (Kd.R_drew HO_9.out)
                                            have n2_ := Aside0.mk (Kd.R_drew HO_43.out)
                                            have n3_ := Aside0.mk (blk_drew BK120.out)
                                            have n4_ := Aside0.mk (blk_drew BK123.out)
                                            have n5_ := Aside0.mk (blk_drew BK128.out)
                                            have n6_ := Aside0.mk (blk_drew BK130.out)
                                            have n7_ := Aside0.mk (below_drew1 HB.out)
                                            clear HO_3
                                            clear HO_9
                                            clear HO_43
                                            clear BK120
                                            clear BK123
                                            clear BK128
                                            clear BK130
                                            clear HB
                                            have HO_3 := n0_
                                            have HO_9 := n1_
                                            have HO_43 := n2_
                                            have BK120 := n3_
                                            have BK123 := n4_
                                            have BK128 := n5_
                                            have BK130 := n6_
                                            have HB := n7_
                                            clear n0_ n1_ n2_ n3_ n4_ n5_ n6_ n7_
                                            refine start_ (n := 12) (S := fun w' => w'.cell? ⟨gb130, 0, none⟩ = some (.int .i64 ((rd_T42 x6_2 x45_3).f0)) ∧ w'.cell? ⟨gb130, 1, none⟩ = some (.int .i64 ((rd_T42 x6_2 x45_3).f1)) ∧ w'.cell? ⟨gb128, 0, none⟩ = some (.int .i64 ((rd_T40 l0_1 x34_2).f0)) ∧ w'.cell? ⟨gb128, 1, none⟩ = some (.int .i64 ((rd_T40 l0_1 x34_2).f1)) ∧ w'.cell? ⟨gb128, 2, none⟩ = some (.string ((rd_T40 l0_1 x34_2).f2)) ∧ w'.cell? ⟨gb128, 3, none⟩ = some (.string ((rd_T40 l0_1 x34_2).f3)) ∧ w'.cell? ⟨gb128, 4, none⟩ = some (.int .i64 ((rd_T40 l0_1 x34_2).f4)) ∧ w'.cell? ⟨gb128, 5, none⟩ = some (.int .i64 ((rd_T40 l0_1 x34_2).f5)) ∧ w'.cell? ⟨gb128, 6, none⟩ = some (.bool ((rd_T40 l0_1 x34_2).f6))) (ds := []) #[false, false, false, false, false, false, false, false, false, false, false, false] (by kernel_rfl) rfl rfl ⟨(blk_cell BK130.out 0).trans rfl, (blk_cell BK130.out 1).trans rfl, (blk_cell BK128.out 0).trans rfl, (blk_cell BK128.out 1).trans rfl, (blk_cell BK128.out 2).trans rfl, (blk_cell BK128.out 3).trans rfl, (blk_cell BK128.out 4).trans rfl, (blk_cell BK128.out 5).trans rfl, (blk_cell BK128.out 6).trans rfl⟩ (fun hHeld => ?_); refine with_tabW spec_SelfTimes.tab17 spec_SelfTimes.bits17 (fun HT_ HW_ => ?_)
                                            generalize w45.drew = w46 at HO_3 HO_9 HO_43 BK120 BK123 BK128 BK130 HB hHeld ⊢
                                            refine pure_ (i := 0) (N := some 54) (v := ?_) (a' := ?_) #[true, false, false, false, false, false, false, false, false, false, false, false] rfl rfl (any_of HT_.out (by kernel_rfl)) (fun _ _ _ h => h) (Or.inl ⟨by rfl, ?_⟩) ?_ ?_
                                            rotate_left
                                            · intro w'
                                              go_simp
                                              with_reducible rfl
                                            rotate_left
                                            · simp only [Act.put, List.setIfInBounds_toArray, List.set_cons_zero, List.set_cons_succ, i64_w, i32_w]
                                              rfl
                                            refine pure_ (i := 1) (N := some 55) (v := ?_) (a' := ?_) #[true, true, false, false, false, false, false, false, false, false, false, false] rfl rfl (any_of HT_.out (by kernel_rfl)) (fun _ _ _ h => h) (Or.inl ⟨by rfl, ?_⟩) ?_ ?_
                                            rotate_left
                                            · intro w'
                                              go_simp
                                              with_reducible rfl
                                            rotate_left
                                            · simp only [Act.put, List.setIfInBounds_toArray, List.set_cons_zero, List.set_cons_succ, i64_w, i32_w]
                                              rfl
                                            refine pure_ (i := 3) (N := some 57) (v := ?_) (a' := ?_) #[true, true, false, true, false, false, false, false, false, false, false, false] rfl rfl (any_of HT_.out (by kernel_rfl)) (fun _ _ _ h => h) (Or.inl ⟨by rfl, ?_⟩) ?_ ?_
                                            rotate_left
                                            · intro w'
                                              go_simp
                                              with_reducible rfl
                                            rotate_left
                                            · simp only [Act.put, List.setIfInBounds_toArray, List.set_cons_zero, List.set_cons_succ, i64_w, i32_w]
                                              rfl
                                            refine pure_ (i := 5) (N := some 59) (v := ?_) (a' := ?_) #[true, true, false, true, false, true, false, false, false, false, false, false] rfl rfl (any_of HT_.out (by kernel_rfl)) (fun _ _ _ h => h) (Or.inl ⟨by rfl, ?_⟩) ?_ ?_
                                            rotate_left
                                            · intro w'
                                              go_simp
                                              with_reducible rfl
                                            rotate_left
                                            · simp only [Act.put, List.setIfInBounds_toArray, List.set_cons_zero, List.set_cons_succ, i64_w, i32_w]
                                              rfl
                                            refine take_ (i := 2) (N := some 56) (v := ?_) (a' := ?_) #[true, true, true, true, false, true, false, false, false, false, false, false] rfl rfl (take_ofW HT_.out HW_.out (by kernel_rfl)) (fun _ _ _ h => h) (Or.inl ⟨by rfl, ?_⟩) hHeld ?_ ?_
                                            rotate_left
                                            · rintro w' ⟨s0, s1, s2, s3, s4, s5, s6, s7, s8⟩
                                              go_simp
                                              with_reducible rfl
                                            rotate_left
                                            · simp only [Act.put, List.setIfInBounds_toArray, List.set_cons_zero, List.set_cons_succ, i64_w, i32_w]
                                              rfl
                                            refine take_ (i := 4) (N := some 58) (v := ?_) (a' := ?_) #[true, true, true, true, true, true, false, false, false, false, false, false] rfl rfl (take_ofW HT_.out HW_.out (by kernel_rfl)) (fun _ _ _ h => h) (Or.inl ⟨by rfl, ?_⟩) hHeld ?_ ?_
                                            rotate_left
                                            · rintro w' ⟨s0, s1, s2, s3, s4, s5, s6, s7, s8⟩
                                              go_simp
                                              with_reducible rfl
                                            rotate_left
                                            · simp only [Act.put, List.setIfInBounds_toArray, List.set_cons_zero, List.set_cons_succ, i64_w, i32_w]
                                              rfl
                                            refine take_ (i := 6) (N := some 60) (v := ?_) (a' := ?_) #[true, true, true, true, true, true, true, false, false, false, false, false] rfl rfl (take_ofW HT_.out HW_.out (by kernel_rfl)) (fun _ _ _ h => h) (Or.inl ⟨by rfl, ?_⟩) hHeld ?_ ?_
                                            rotate_left
                                            · rintro w' ⟨s0, s1, s2, s3, s4, s5, s6, s7, s8⟩
                                              go_simp
                                              with_reducible rfl
                                            rotate_left
                                            · simp only [Act.put, List.setIfInBounds_toArray, List.set_cons_zero, List.set_cons_succ, i64_w, i32_w]
                                              rfl
                                            refine one_ (i := 7) (N := some 61) #[true, true, true, true, true, true, true, true, false, false, false, false] rfl rfl (one_of HT_.out (by kernel_rfl)) (by decide) (fun K hK => ?_)
                                            refine goes_ Try.func15 (by kernel_rfl) rfl #[.int .i64 ((rd_T42 x6_2 x45_3).f1), .int .i64 ((rd_T40 l0_1 x34_2).f4)] (by rfl) rfl rfl (by (try simp only [List.map_toArray, List.map_cons, List.map_nil]); first | done | rfl | (simp only [List.length_drop, List.length_take]; rfl)) ?_
                                            with_reducible refine (spec_l23Less.calls ((rd_T42 x6_2 x45_3).f1) ((rd_T40 l0_1 x34_2).f4) t131 _ A32.out).mono ?_
                                            rintro e w' ⟨rfl, ⟨nd, rfl⟩⟩
                                            refine ⟨_, rfl, ?_⟩
                                            refine hK.out _ _ ⟨(blk_cell BK130.out 0).trans rfl, (blk_cell BK130.out 1).trans rfl, (blk_cell BK128.out 0).trans rfl, (blk_cell BK128.out 1).trans rfl, (blk_cell BK128.out 2).trans rfl, (blk_cell BK128.out 3).trans rfl, (blk_cell BK128.out 4).trans rfl, (blk_cell BK128.out 5).trans rfl, (blk_cell BK128.out 6).trans rfl⟩ (fun hHeld => ?_)
                                            clear hK K
                                            refine norm_ (a' := ?_) ?_ ?_
                                            rotate_left
                                            · show Act.put _ (some 61) _ = _
                                              simp only [Act.put, List.setIfInBounds_toArray, List.set_cons_zero, List.set_cons_succ, i64_w, i32_w]
                                              rfl
                                            refine pure_ (i := 8) (N := some 62) (v := ?_) (a' := ?_) #[true, true, true, true, true, true, true, true, true, false, false, false] rfl rfl (any_of HT_.out (by kernel_rfl)) (fun _ _ _ h => h) (Or.inl ⟨by rfl, ?_⟩) ?_ ?_
                                            rotate_left
                                            · intro w'
                                              go_simp
                                              with_reducible rfl
                                            rotate_left
                                            · simp only [Act.put, List.setIfInBounds_toArray, List.set_cons_zero, List.set_cons_succ, i64_w, i32_w]
                                              rfl
                                            refine one_ (i := 9) (N := some 63) #[true, true, true, true, true, true, true, true, true, true, false, false] rfl rfl (one_of HT_.out (by kernel_rfl)) (by decide) (fun K hK => ?_)
                                            refine value_ (w1 := ?_) (v := ?_) (by rfl) rfl ?_ ?_
                                            rotate_left 2
                                            · go_simp
                                              constructor
                                              · rfl
                                              · rfl
                                            refine hK.out _ _ ⟨(blk_cell (blk_alloc BK130.out _) 0).trans rfl, (blk_cell (blk_alloc BK130.out _) 1).trans rfl, (blk_cell (blk_alloc BK128.out _) 0).trans rfl, (blk_cell (blk_alloc BK128.out _) 1).trans rfl, (blk_cell (blk_alloc BK128.out _) 2).trans rfl, (blk_cell (blk_alloc BK128.out _) 3).trans rfl, (blk_cell (blk_alloc BK128.out _) 4).trans rfl, (blk_cell (blk_alloc BK128.out _) 5).trans rfl, (blk_cell (blk_alloc BK128.out _) 6).trans rfl⟩ (fun hHeld => ?_)
                                            clear hK K
                                            refine norm_ (a' := ?_) ?_ ?_
                                            rotate_left
                                            · show Act.put _ (some 63) _ = _
                                              simp only [Act.put, List.setIfInBounds_toArray, List.set_cons_zero, List.set_cons_succ, i64_w, i32_w]
                                              rfl
                                            refine one_ (i := 10) (N := some 64) #[true, true, true, true, true, true, true, true, true, true, true, false] rfl rfl (one_of HT_.out (by kernel_rfl)) (by decide) (fun K hK => ?_)
                                            refine Kd.R_append_step k42 (w0 := w) w.heap.size (by rfl) (.tmp 54) (.tmp 63) 43 42 (.agg #[(.int .i64 0), (.int .i64 0)]) 16 rfl Try.underlying43 info42 rfl (by decide) (by omega) u9 x9_3 (⟨(rd_T42 x6_2 x45_3).f0, t131⟩ : S42) [.int .i64 ((rd_T42 x6_2 x45_3).f0), .int .i64 t131] (fun k_ => some k_ ≠ (.slice (some ad129) x6_2.length co27 : Value).ownBlock ∧ k_ ≠ gb130) (fun _ => False) rfl rfl ?aP (fun _ hk => hk.elim) ?aF ?aO ?aB ?aS ?aL ?_
                                            (case aP => exact k42_mkM _ _ _ (⟨(rd_T42 x6_2 x45_3).f0, t131⟩ : S42))
                                            (case aB => exact (by repeat (first | (with_reducible first | exact HB.out | apply below_alloc | apply pw_below_drewN | apply below_drew1 | refine below_set ?_ GE120.out | refine below_set ?_ GE123.out | refine below_set ?_ GE128.out | refine below_set ?_ GE130.out) | exact HB.out)))
                                            (case aF => exact (fun k_ hk => ⟨Kd.fresh' (Kd.R_lt (by (with_reducible repeat (first | apply Kd.R_alloc | apply Kd.R_drewN | apply Kd.R_drew)); exact HO_43.out)) k_ hk, Kd.freshB (g := gb130) (o := .cells #[.int .i64 ((rd_T42 x6_2 x45_3).f0), .int .i64 ((rd_T42 x6_2 x45_3).f1)] 42 (0, 0)) (by (with_reducible repeat (first | refine blk_drewN ?_ _ | refine blk_drew ?_ | refine blk_alloc ?_ _)); exact BK130.out) k_ hk⟩))
                                            (case aO => exact (by (with_reducible repeat (first | apply Kd.R_alloc | apply Kd.R_drewN | apply Kd.R_drew)); exact HO_9.out))
                                            (case aS => exact (below_size (by repeat (first | (with_reducible first | exact HB.out | apply below_alloc | apply pw_below_drewN | apply below_drew1 | refine below_set ?_ GE120.out | refine below_set ?_ GE123.out | refine below_set ?_ GE128.out | refine below_set ?_ GE130.out) | exact HB.out))))
                                            (case aL => have := LMc33.out; omega)
                                            intro v133 w47 ho hb hg hat
                                            rw [← Ny132.out] at ho
                                            have n0_ := Aside0.mk (Kd.R_over' (by (with_reducible repeat (first | apply Kd.R_alloc | apply Kd.R_drewN | apply Kd.R_drew)); exact HO_3.out) (Kd.R_typed (by (with_reducible repeat (first | apply Kd.R_alloc | apply Kd.R_drewN | apply Kd.R_drew)); exact HO_9.out)) (by decide) hg)
                                            have n1_ := Aside0.mk (Kd.R_after (ok := (fun k_ => k_ ≠ gb130)) (by (with_reducible repeat (first | apply Kd.R_alloc | apply Kd.R_drewN | apply Kd.R_drew)); exact Kd.R_mono HO_43.out (fun _ hk => ⟨hk.2, hk.1⟩)) hg hat)
                                            have n2_ := Aside0.mk (blk_grown (g := gb120) (o := .cells #[.int .i64 a0_0, .slice (some ad122) l0_1.length c0_1] 30 (0, 0)) (by (with_reducible repeat (first | refine blk_drewN ?_ _ | refine blk_drew ?_ | refine blk_alloc ?_ _)); exact BK120.out) hg (Kd.R_ne HO_9.out BK120.out (by decide)))
                                            have n3_ := Aside0.mk (blk_grown (g := gb123) (o := .cells #[.int .i64 ((rd_T40 l0_1 x21_1).f0), .int .i64 ((rd_T40 l0_1 x21_1).f1), .string ((rd_T40 l0_1 x21_1).f2), .string ((rd_T40 l0_1 x21_1).f3), .int .i64 ((rd_T40 l0_1 x21_1).f4), .int .i64 ((rd_T40 l0_1 x21_1).f5), .bool ((rd_T40 l0_1 x21_1).f6)] 40 (0, 0)) (by (with_reducible repeat (first | refine blk_drewN ?_ _ | refine blk_drew ?_ | refine blk_alloc ?_ _)); exact BK123.out) hg (Kd.R_ne HO_9.out BK123.out (by decide)))
                                            have n4_ := Aside0.mk (blk_grown (g := gb128) (o := .cells #[.int .i64 ((rd_T40 l0_1 x34_2).f0), .int .i64 ((rd_T40 l0_1 x34_2).f1), .string ((rd_T40 l0_1 x34_2).f2), .string ((rd_T40 l0_1 x34_2).f3), .int .i64 ((rd_T40 l0_1 x34_2).f4), .int .i64 ((rd_T40 l0_1 x34_2).f5), .bool ((rd_T40 l0_1 x34_2).f6)] 40 (0, 0)) (by (with_reducible repeat (first | refine blk_drewN ?_ _ | refine blk_drew ?_ | refine blk_alloc ?_ _)); exact BK128.out) hg (Kd.R_ne HO_9.out BK128.out (by decide)))
                                            have n5_ := Aside0.mk (blk_grown (g := gb130) (o := .cells #[.int .i64 ((rd_T42 x6_2 x45_3).f0), .int .i64 ((rd_T42 x6_2 x45_3).f1)] 42 (0, 0)) (by (with_reducible repeat (first | refine blk_drewN ?_ _ | refine blk_drew ?_ | refine blk_alloc ?_ _)); exact BK130.out) hg (Kd.R_away HO_9.out (fun _ hk => hk.2)))
                                            have n6_ := Aside0.mk (hb)
                                            have n7_ := Aside0.mk (ho)
                                            clear HO_3
                                            clear HO_43
                                            clear BK120
                                            clear BK123
                                            clear BK128
                                            clear BK130
                                            clear HB
                                            clear HO_9
                                            have HO_3 := n0_
                                            have HO_43 := n1_
                                            have BK120 := n2_
                                            have BK123 := n3_
                                            have BK128 := n4_
                                            have BK130 := n5_
                                            have HB := n6_
                                            have HO134 := n7_
                                            clear n0_ n1_ n2_ n3_ n4_ n5_ n6_ n7_
                                            clear ho hb hg hat
                                            refine hK.out _ _ ⟨(blk_cell BK130.out 0).trans rfl, (blk_cell BK130.out 1).trans rfl, (blk_cell BK128.out 0).trans rfl, (blk_cell BK128.out 1).trans rfl, (blk_cell BK128.out 2).trans rfl, (blk_cell BK128.out 3).trans rfl, (blk_cell BK128.out 4).trans rfl, (blk_cell BK128.out 5).trans rfl, (blk_cell BK128.out 6).trans rfl⟩ (fun hHeld => ?_)
                                            clear hK K
                                            refine norm_ (a' := ?_) ?_ ?_
                                            rotate_left
                                            · show Act.put _ (some 64) _ = _
                                              simp only [Act.put, List.setIfInBounds_toArray, List.set_cons_zero, List.set_cons_succ, i64_w, i32_w]
                                              rfl
                                            refine pure_ (i := 11) (N := some 9) (v := ?_) (a' := ?_) #[true, true, true, true, true, true, true, true, true, true, true, true] rfl rfl (any_of HT_.out (by kernel_rfl)) (fun _ _ _ h => h) (Or.inl ⟨by rfl, ?_⟩) ?_ ?_
                                            rotate_left
                                            · intro w'
                                              go_simp
                                              with_reducible rfl
                                            rotate_left
                                            · simp only [Act.put, List.setIfInBounds_toArray, List.set_cons_zero, List.set_cons_succ, i64_w, i32_w]
                                              rfl
                                            refine done_ (done_of HT_.out (by kernel_rfl)) ?_
                                            have hcz48_0 : w47.cell? ⟨gb128, 0, none⟩ = some (.int .i64 ((rd_T40 l0_1 x34_2).f0)) := (blk_cell BK128.out 0).trans rfl
                                            have hcz48_1 : w47.cell? ⟨gb128, 1, none⟩ = some (.int .i64 ((rd_T40 l0_1 x34_2).f1)) := (blk_cell BK128.out 1).trans rfl
                                            have hcz48_2 : w47.cell? ⟨gb128, 2, none⟩ = some (.string ((rd_T40 l0_1 x34_2).f2)) := (blk_cell BK128.out 2).trans rfl
                                            have hcz48_3 : w47.cell? ⟨gb128, 3, none⟩ = some (.string ((rd_T40 l0_1 x34_2).f3)) := (blk_cell BK128.out 3).trans rfl
                                            have hcz48_4 : w47.cell? ⟨gb128, 4, none⟩ = some (.int .i64 ((rd_T40 l0_1 x34_2).f4)) := (blk_cell BK128.out 4).trans rfl
                                            have hcz48_5 : w47.cell? ⟨gb128, 5, none⟩ = some (.int .i64 ((rd_T40 l0_1 x34_2).f5)) := (blk_cell BK128.out 5).trans rfl
                                            have hcz48_6 : w47.cell? ⟨gb128, 6, none⟩ = some (.bool ((rd_T40 l0_1 x34_2).f6)) := (blk_cell BK128.out 6).trans rfl
                                            have hfz48_0 := blk_frozen BK128.out 0
                                            have hfz48_1 := blk_frozen BK128.out 1
                                            have hfz48_2 := blk_frozen BK128.out 2
                                            have hfz48_3 := blk_frozen BK128.out 3
                                            have hfz48_4 := blk_frozen BK128.out 4
                                            have hfz48_5 := blk_frozen BK128.out 5
                                            have hfz48_6 := blk_frozen BK128.out 6
                                            have hcz49_0 : w47.cell? ⟨gb130, 0, none⟩ = some (.int .i64 ((rd_T42 x6_2 x45_3).f0)) := (blk_cell BK130.out 0).trans rfl
                                            have hcz49_1 : w47.cell? ⟨gb130, 1, none⟩ = some (.int .i64 ((rd_T42 x6_2 x45_3).f1)) := (blk_cell BK130.out 1).trans rfl
                                            have hfz49_0 := blk_frozen BK130.out 0
                                            have hfz49_1 := blk_frozen BK130.out 1
                                            try go_wp2
                                            have n0_ := Aside0.mk (Kd.R_drew HO_3.out)
                                            have n1_ := Aside0.mk (Kd.R_drew HO_43.out)
                                            have n2_ := Aside0.mk (Kd.R_drew HO134.out)
                                            have n3_ := Aside0.mk (blk_drew BK120.out)
                                            have n4_ := Aside0.mk (blk_drew BK123.out)
                                            have n5_ := Aside0.mk (blk_drew BK128.out)
                                            have n6_ := Aside0.mk (blk_drew BK130.out)
                                            have n7_ := Aside0.mk (below_drew1 HB.out)
                                            clear HO_3
                                            clear HO_43
                                            clear HO134
                                            clear BK120
                                            clear BK123
                                            clear BK128
                                            clear BK130
                                            clear HB
                                            have HO_3 := n0_
                                            have HO_43 := n1_
                                            have HO134 := n2_
                                            have BK120 := n3_
                                            have BK123 := n4_
                                            have BK128 := n5_
                                            have BK130 := n6_
                                            have HB := n7_
                                            clear n0_ n1_ n2_ n3_ n4_ n5_ n6_ n7_
                                            refine start_ (n := 12) (S := fun w' => w'.cell? ⟨gb130, 0, none⟩ = some (.int .i64 ((rd_T42 x6_2 x45_3).f0)) ∧ w'.cell? ⟨gb130, 1, none⟩ = some (.int .i64 ((rd_T42 x6_2 x45_3).f1)) ∧ w'.cell? ⟨gb128, 0, none⟩ = some (.int .i64 ((rd_T40 l0_1 x34_2).f0)) ∧ w'.cell? ⟨gb128, 1, none⟩ = some (.int .i64 ((rd_T40 l0_1 x34_2).f1)) ∧ w'.cell? ⟨gb128, 2, none⟩ = some (.string ((rd_T40 l0_1 x34_2).f2)) ∧ w'.cell? ⟨gb128, 3, none⟩ = some (.string ((rd_T40 l0_1 x34_2).f3)) ∧ w'.cell? ⟨gb128, 4, none⟩ = some (.int .i64 ((rd_T40 l0_1 x34_2).f4)) ∧ w'.cell? ⟨gb128, 5, none⟩ = some (.int .i64 ((rd_T40 l0_1 x34_2).f5)) ∧ w'.cell? ⟨gb128, 6, none⟩ = some (.bool ((rd_T40 l0_1 x34_2).f6))) (ds := []) #[false, false, false, false, false, false, false, false, false, false, false, false] (by kernel_rfl) rfl rfl ⟨(blk_cell BK130.out 0).trans rfl, (blk_cell BK130.out 1).trans rfl, (blk_cell BK128.out 0).trans rfl, (blk_cell BK128.out 1).trans rfl, (blk_cell BK128.out 2).trans rfl, (blk_cell BK128.out 3).trans rfl, (blk_cell BK128.out 4).trans rfl, (blk_cell BK128.out 5).trans rfl, (blk_cell BK128.out 6).trans rfl⟩ (fun hHeld => ?_); refine with_tabW spec_SelfTimes.tab19 spec_SelfTimes.bits19 (fun HT_ HW_ => ?_)
                                            generalize w47.drew = w50 at HO_3 HO_43 HO134 BK120 BK123 BK128 BK130 HB hHeld ⊢
                                            refine pure_ (i := 0) (N := some 70) (v := ?_) (a' := ?_) #[true, false, false, false, false, false, false, false, false, false, false, false] rfl rfl (any_of HT_.out (by kernel_rfl)) (fun _ _ _ h => h) (Or.inl ⟨by rfl, ?_⟩) ?_ ?_
                                            rotate_left
                                            · intro w'
                                              go_simp
                                              with_reducible rfl
                                            rotate_left
                                            · simp only [Act.put, List.setIfInBounds_toArray, List.set_cons_zero, List.set_cons_succ, i64_w, i32_w]
                                              rfl
                                            refine pure_ (i := 1) (N := some 71) (v := ?_) (a' := ?_) #[true, true, false, false, false, false, false, false, false, false, false, false] rfl rfl (any_of HT_.out (by kernel_rfl)) (fun _ _ _ h => h) (Or.inl ⟨by rfl, ?_⟩) ?_ ?_
                                            rotate_left
                                            · intro w'
                                              go_simp
                                              with_reducible rfl
                                            rotate_left
                                            · simp only [Act.put, List.setIfInBounds_toArray, List.set_cons_zero, List.set_cons_succ, i64_w, i32_w]
                                              rfl
                                            refine pure_ (i := 3) (N := some 73) (v := ?_) (a' := ?_) #[true, true, false, true, false, false, false, false, false, false, false, false] rfl rfl (any_of HT_.out (by kernel_rfl)) (fun _ _ _ h => h) (Or.inl ⟨by rfl, ?_⟩) ?_ ?_
                                            rotate_left
                                            · intro w'
                                              go_simp
                                              with_reducible rfl
                                            rotate_left
                                            · simp only [Act.put, List.setIfInBounds_toArray, List.set_cons_zero, List.set_cons_succ, i64_w, i32_w]
                                              rfl
                                            refine pure_ (i := 6) (N := some 76) (v := ?_) (a' := ?_) #[true, true, false, true, false, false, true, false, false, false, false, false] rfl rfl (any_of HT_.out (by kernel_rfl)) (fun _ _ _ h => h) (Or.inl ⟨by rfl, ?_⟩) ?_ ?_
                                            rotate_left
                                            · intro w'
                                              go_simp
                                              with_reducible rfl
                                            rotate_left
                                            · simp only [Act.put, List.setIfInBounds_toArray, List.set_cons_zero, List.set_cons_succ, i64_w, i32_w]
                                              rfl
                                            refine take_ (i := 2) (N := some 72) (v := ?_) (a' := ?_) #[true, true, true, true, false, false, true, false, false, false, false, false] rfl rfl (take_ofW HT_.out HW_.out (by kernel_rfl)) (fun _ _ _ h => h) (Or.inl ⟨by rfl, ?_⟩) hHeld ?_ ?_
                                            rotate_left
                                            · rintro w' ⟨s0, s1, s2, s3, s4, s5, s6, s7, s8⟩
                                              go_simp
                                              with_reducible rfl
                                            rotate_left
                                            · simp only [Act.put, List.setIfInBounds_toArray, List.set_cons_zero, List.set_cons_succ, i64_w, i32_w]
                                              rfl
                                            refine take_ (i := 4) (N := some 74) (v := ?_) (a' := ?_) #[true, true, true, true, true, false, true, false, false, false, false, false] rfl rfl (take_ofW HT_.out HW_.out (by kernel_rfl)) (fun _ _ _ h => h) (Or.inl ⟨by rfl, ?_⟩) hHeld ?_ ?_
                                            rotate_left
                                            · rintro w' ⟨s0, s1, s2, s3, s4, s5, s6, s7, s8⟩
                                              go_simp
                                              with_reducible rfl
                                            rotate_left
                                            · simp only [Act.put, List.setIfInBounds_toArray, List.set_cons_zero, List.set_cons_succ, i64_w, i32_w]
                                              rfl
                                            refine take_ (i := 7) (N := some 77) (v := ?_) (a' := ?_) #[true, true, true, true, true, false, true, true, false, false, false, false] rfl rfl (take_ofW HT_.out HW_.out (by kernel_rfl)) (fun _ _ _ h => h) (Or.inl ⟨by rfl, ?_⟩) hHeld ?_ ?_
                                            rotate_left
                                            · rintro w' ⟨s0, s1, s2, s3, s4, s5, s6, s7, s8⟩
                                              go_simp
                                              with_reducible rfl
                                            rotate_left
                                            · simp only [Act.put, List.setIfInBounds_toArray, List.set_cons_zero, List.set_cons_succ, i64_w, i32_w]
                                              rfl
                                            refine one_ (i := 5) (N := some 75) #[true, true, true, true, true, true, true, true, false, false, false, false] rfl rfl (one_of HT_.out (by kernel_rfl)) (by decide) (fun K hK => ?_)
                                            refine goes_ Try.func16 (by kernel_rfl) rfl #[.int .i64 ((rd_T42 x6_2 x45_3).f0), .int .i64 ((rd_T40 l0_1 x34_2).f5)] (by rfl) rfl rfl (by (try simp only [List.map_toArray, List.map_cons, List.map_nil]); first | done | rfl | (simp only [List.length_drop, List.length_take]; rfl)) ?_
                                            with_reducible refine (spec_l23More.calls ((rd_T42 x6_2 x45_3).f0) ((rd_T40 l0_1 x34_2).f5) t135 _ A35.out).mono ?_
                                            rintro e w' ⟨rfl, ⟨nd, rfl⟩⟩
                                            refine ⟨_, rfl, ?_⟩
                                            refine hK.out _ _ ⟨(blk_cell BK130.out 0).trans rfl, (blk_cell BK130.out 1).trans rfl, (blk_cell BK128.out 0).trans rfl, (blk_cell BK128.out 1).trans rfl, (blk_cell BK128.out 2).trans rfl, (blk_cell BK128.out 3).trans rfl, (blk_cell BK128.out 4).trans rfl, (blk_cell BK128.out 5).trans rfl, (blk_cell BK128.out 6).trans rfl⟩ (fun hHeld => ?_)
                                            clear hK K
                                            refine norm_ (a' := ?_) ?_ ?_
                                            rotate_left
                                            · show Act.put _ (some 75) _ = _
                                              simp only [Act.put, List.setIfInBounds_toArray, List.set_cons_zero, List.set_cons_succ, i64_w, i32_w]
                                              rfl
                                            refine pure_ (i := 8) (N := some 78) (v := ?_) (a' := ?_) #[true, true, true, true, true, true, true, true, true, false, false, false] rfl rfl (any_of HT_.out (by kernel_rfl)) (fun _ _ _ h => h) (Or.inl ⟨by rfl, ?_⟩) ?_ ?_
                                            rotate_left
                                            · intro w'
                                              go_simp
                                              with_reducible rfl
                                            rotate_left
                                            · simp only [Act.put, List.setIfInBounds_toArray, List.set_cons_zero, List.set_cons_succ, i64_w, i32_w]
                                              rfl
                                            refine one_ (i := 9) (N := some 79) #[true, true, true, true, true, true, true, true, true, true, false, false] rfl rfl (one_of HT_.out (by kernel_rfl)) (by decide) (fun K hK => ?_)
                                            refine value_ (w1 := ?_) (v := ?_) (by rfl) rfl ?_ ?_
                                            rotate_left 2
                                            · go_simp
                                              constructor
                                              · rfl
                                              · rfl
                                            refine hK.out _ _ ⟨(blk_cell (blk_alloc BK130.out _) 0).trans rfl, (blk_cell (blk_alloc BK130.out _) 1).trans rfl, (blk_cell (blk_alloc BK128.out _) 0).trans rfl, (blk_cell (blk_alloc BK128.out _) 1).trans rfl, (blk_cell (blk_alloc BK128.out _) 2).trans rfl, (blk_cell (blk_alloc BK128.out _) 3).trans rfl, (blk_cell (blk_alloc BK128.out _) 4).trans rfl, (blk_cell (blk_alloc BK128.out _) 5).trans rfl, (blk_cell (blk_alloc BK128.out _) 6).trans rfl⟩ (fun hHeld => ?_)
                                            clear hK K
                                            refine norm_ (a' := ?_) ?_ ?_
                                            rotate_left
                                            · show Act.put _ (some 79) _ = _
                                              simp only [Act.put, List.setIfInBounds_toArray, List.set_cons_zero, List.set_cons_succ, i64_w, i32_w]
                                              rfl
                                            refine one_ (i := 10) (N := some 80) #[true, true, true, true, true, true, true, true, true, true, true, false] rfl rfl (one_of HT_.out (by kernel_rfl)) (by decide) (fun K hK => ?_)
                                            refine Kd.R_append_step k42 (w0 := w) w.heap.size (by rfl) (.tmp 70) (.tmp 79) 43 42 (.agg #[(.int .i64 0), (.int .i64 0)]) 16 rfl Try.underlying43 info42 rfl (by decide) (by omega) v133 y132 (⟨t135, (rd_T42 x6_2 x45_3).f1⟩ : S42) [.int .i64 t135, .int .i64 ((rd_T42 x6_2 x45_3).f1)] (fun k_ => some k_ ≠ (.slice (some ad129) x6_2.length co27 : Value).ownBlock ∧ k_ ≠ gb130) (fun _ => False) rfl rfl ?aP (fun _ hk => hk.elim) ?aF ?aO ?aB ?aS ?aL ?_
                                            (case aP => exact k42_mkM _ _ _ (⟨t135, (rd_T42 x6_2 x45_3).f1⟩ : S42))
                                            (case aB => exact (by repeat (first | (with_reducible first | exact HB.out | apply below_alloc | apply pw_below_drewN | apply below_drew1 | refine below_set ?_ GE120.out | refine below_set ?_ GE123.out | refine below_set ?_ GE128.out | refine below_set ?_ GE130.out) | exact HB.out)))
                                            (case aF => exact (fun k_ hk => ⟨Kd.fresh' (Kd.R_lt (by (with_reducible repeat (first | apply Kd.R_alloc | apply Kd.R_drewN | apply Kd.R_drew)); exact HO_43.out)) k_ hk, Kd.freshB (g := gb130) (o := .cells #[.int .i64 ((rd_T42 x6_2 x45_3).f0), .int .i64 ((rd_T42 x6_2 x45_3).f1)] 42 (0, 0)) (by (with_reducible repeat (first | refine blk_drewN ?_ _ | refine blk_drew ?_ | refine blk_alloc ?_ _)); exact BK130.out) k_ hk⟩))
                                            (case aO => exact (by (with_reducible repeat (first | apply Kd.R_alloc | apply Kd.R_drewN | apply Kd.R_drew)); exact HO134.out))
                                            (case aS => exact (below_size (by repeat (first | (with_reducible first | exact HB.out | apply below_alloc | apply pw_below_drewN | apply below_drew1 | refine below_set ?_ GE120.out | refine below_set ?_ GE123.out | refine below_set ?_ GE128.out | refine below_set ?_ GE130.out) | exact HB.out))))
                                            (case aL => have := LMc36.out; omega)
                                            intro v137 w51 ho hb hg hat
                                            rw [← Ny136.out] at ho
                                            have n0_ := Aside0.mk (Kd.R_over' (by (with_reducible repeat (first | apply Kd.R_alloc | apply Kd.R_drewN | apply Kd.R_drew)); exact HO_3.out) (Kd.R_typed (by (with_reducible repeat (first | apply Kd.R_alloc | apply Kd.R_drewN | apply Kd.R_drew)); exact HO134.out)) (by decide) hg)
                                            have n1_ := Aside0.mk (Kd.R_after (ok := (fun k_ => k_ ≠ gb130)) (by (with_reducible repeat (first | apply Kd.R_alloc | apply Kd.R_drewN | apply Kd.R_drew)); exact HO_43.out) hg hat)
                                            have n2_ := Aside0.mk (blk_grown (g := gb120) (o := .cells #[.int .i64 a0_0, .slice (some ad122) l0_1.length c0_1] 30 (0, 0)) (by (with_reducible repeat (first | refine blk_drewN ?_ _ | refine blk_drew ?_ | refine blk_alloc ?_ _)); exact BK120.out) hg (Kd.R_ne HO134.out BK120.out (by decide)))
                                            have n3_ := Aside0.mk (blk_grown (g := gb123) (o := .cells #[.int .i64 ((rd_T40 l0_1 x21_1).f0), .int .i64 ((rd_T40 l0_1 x21_1).f1), .string ((rd_T40 l0_1 x21_1).f2), .string ((rd_T40 l0_1 x21_1).f3), .int .i64 ((rd_T40 l0_1 x21_1).f4), .int .i64 ((rd_T40 l0_1 x21_1).f5), .bool ((rd_T40 l0_1 x21_1).f6)] 40 (0, 0)) (by (with_reducible repeat (first | refine blk_drewN ?_ _ | refine blk_drew ?_ | refine blk_alloc ?_ _)); exact BK123.out) hg (Kd.R_ne HO134.out BK123.out (by decide)))
                                            have n4_ := Aside0.mk (blk_grown (g := gb128) (o := .cells #[.int .i64 ((rd_T40 l0_1 x34_2).f0), .int .i64 ((rd_T40 l0_1 x34_2).f1), .string ((rd_T40 l0_1 x34_2).f2), .string ((rd_T40 l0_1 x34_2).f3), .int .i64 ((rd_T40 l0_1 x34_2).f4), .int .i64 ((rd_T40 l0_1 x34_2).f5), .bool ((rd_T40 l0_1 x34_2).f6)] 40 (0, 0)) (by (with_reducible repeat (first | refine blk_drewN ?_ _ | refine blk_drew ?_ | refine blk_alloc ?_ _)); exact BK128.out) hg (Kd.R_ne HO134.out BK128.out (by decide)))
                                            have n5_ := Aside0.mk (blk_grown (g := gb130) (o := .cells #[.int .i64 ((rd_T42 x6_2 x45_3).f0), .int .i64 ((rd_T42 x6_2 x45_3).f1)] 42 (0, 0)) (by (with_reducible repeat (first | refine blk_drewN ?_ _ | refine blk_drew ?_ | refine blk_alloc ?_ _)); exact BK130.out) hg (Kd.R_away HO134.out (fun _ hk => hk.2)))
                                            have n6_ := Aside0.mk (hb)
                                            have n7_ := Aside0.mk (ho)
                                            clear HO_3
                                            clear HO_43
                                            clear BK120
                                            clear BK123
                                            clear BK128
                                            clear BK130
                                            clear HB
                                            clear HO134
                                            have HO_3 := n0_
                                            have HO_43 := n1_
                                            have BK120 := n2_
                                            have BK123 := n3_
                                            have BK128 := n4_
                                            have BK130 := n5_
                                            have HB := n6_
                                            have HO138 := n7_
                                            clear n0_ n1_ n2_ n3_ n4_ n5_ n6_ n7_
                                            clear ho hb hg hat
                                            refine hK.out _ _ ⟨(blk_cell BK130.out 0).trans rfl, (blk_cell BK130.out 1).trans rfl, (blk_cell BK128.out 0).trans rfl, (blk_cell BK128.out 1).trans rfl, (blk_cell BK128.out 2).trans rfl, (blk_cell BK128.out 3).trans rfl, (blk_cell BK128.out 4).trans rfl, (blk_cell BK128.out 5).trans rfl, (blk_cell BK128.out 6).trans rfl⟩ (fun hHeld => ?_)
                                            clear hK K
                                            refine norm_ (a' := ?_) ?_ ?_
                                            rotate_left
                                            · show Act.put _ (some 80) _ = _
                                              simp only [Act.put, List.setIfInBounds_toArray, List.set_cons_zero, List.set_cons_succ, i64_w, i32_w]
                                              rfl
                                            refine pure_ (i := 11) (N := some 9) (v := ?_) (a' := ?_) #[true, true, true, true, true, true, true, true, true, true, true, true] rfl rfl (any_of HT_.out (by kernel_rfl)) (fun _ _ _ h => h) (Or.inl ⟨by rfl, ?_⟩) ?_ ?_
                                            rotate_left
                                            · intro w'
                                              go_simp
                                              with_reducible rfl
                                            rotate_left
                                            · simp only [Act.put, List.setIfInBounds_toArray, List.set_cons_zero, List.set_cons_succ, i64_w, i32_w]
                                              rfl
                                            refine done_ (done_of HT_.out (by kernel_rfl)) ?_
                                            try go_wp2
                                            go_roundg k3
                                            case measure => have := HK1.out; have := HK2.out; have := HK3.out; omega
                                            case rel => exact ⟨(y136), (wrap64 (x45_3 + 1)), (by first | rfl | (simp; done) | (simp [*]; done)), H', ⟨by have := HK1.out; have := HK2.out; have := HK3.out; omega⟩, ⟨by (with_reducible repeat (first | apply Kd.R_alloc | apply Kd.R_drewN | apply Kd.R_drew)); exact HO_3.out⟩, ⟨by (with_reducible repeat (first | apply Kd.R_alloc | apply Kd.R_drewN | apply Kd.R_drew)); exact Kd.R_mono HO138.out (fun _ hk => hk.1)⟩, ⟨by (with_reducible repeat (first | apply Kd.R_alloc | apply Kd.R_drewN | apply Kd.R_drew)); exact Kd.R_mono HO_43.out (fun _ hk => hk.2)⟩, ⟨by (with_reducible repeat (first | refine blk_drewN ?_ _ | refine blk_drew ?_ | refine blk_alloc ?_ _)); exact BK120.out⟩, ⟨by (with_reducible repeat (first | refine blk_drewN ?_ _ | refine blk_drew ?_ | refine blk_alloc ?_ _)); exact BK123.out⟩, ⟨by (with_reducible repeat (first | refine blk_drewN ?_ _ | refine blk_drew ?_ | refine blk_alloc ?_ _)); exact BK128.out⟩, ⟨by repeat (first | (with_reducible first | exact HB.out | apply below_alloc | apply pw_below_drewN | apply below_drew1 | refine below_set ?_ GE120.out | refine below_set ?_ GE123.out | refine below_set ?_ GE128.out | refine below_set ?_ GE130.out) | exact HB.out)⟩⟩
                                          · rw [if_neg c36] at H
                                            exact absurd H (by simp)
                                        · rw [if_neg c34] at H
                                          have c34b0 : decide (((rd_T40 l0_1 x34_2).f5) < ((rd_T42 x6_2 x45_3).f1)) = false := decide_eq_false c34
                                          clear c34
                                          have H' := Aside0.mk H
                                          clear H
                                          have p129 : 0 ≤ (x45_3 : Int) := of_decide_eq_true (by first | (with_reducible assumption) | assumption)
                                          have q129 : x45_3 < (x6_2.length : Int) := of_decide_eq_true (by first | (with_reducible assumption) | assumption)
                                          obtain ⟨ad129, e129, hx129_0, hx129_1⟩ := at_T42 (Kd.R_reads' HO_43.out).2.2 x45_3 p129 q129
                                          cases e129
                                          replace p129 := eq_true p129
                                          replace q129 := eq_true q129
                                          try go_wp2_with (first | ((with_reducible refine gate_dst (N := 11) rfl ?_); refine box_event ?hg (N := 11) ?hd (cs := #[.int .i64 0, .int .i64 0]) (t := 42) ?hr ?_; (case hd => rfl); (case hg => rfl); (case hr => first | (go_simp; done) | (go_simp; rfl)); intro gb130 hg w52 hbox hb; have n0_ := Aside0.mk (Kd.R_below (by (with_reducible repeat (first | apply Kd.R_alloc | apply Kd.R_drewN | apply Kd.R_drew)); exact HO_3.out) hb); have n1_ := Aside0.mk (Kd.R_below (Kd.R_elderB (by (with_reducible repeat (first | apply Kd.R_alloc | apply Kd.R_drewN | apply Kd.R_drew)); exact HO_9.out) gb130 (Nat.le_of_eq hg.symm)) hb); have n2_ := Aside0.mk (Kd.R_below (Kd.R_elderB (by (with_reducible repeat (first | apply Kd.R_alloc | apply Kd.R_drewN | apply Kd.R_drew)); exact HO_43.out) gb130 (Nat.le_of_eq hg.symm)) hb); have n3_ := Aside0.mk (blk_below (g := gb120) (o := .cells #[.int .i64 a0_0, .slice (some ad122) l0_1.length c0_1] 30 (0, 0)) (by (with_reducible repeat (first | refine blk_drewN ?_ _ | refine blk_drew ?_ | refine blk_alloc ?_ _)); exact BK120.out) hb); have n4_ := Aside0.mk (blk_below (g := gb123) (o := .cells #[.int .i64 ((rd_T40 l0_1 x21_1).f0), .int .i64 ((rd_T40 l0_1 x21_1).f1), .string ((rd_T40 l0_1 x21_1).f2), .string ((rd_T40 l0_1 x21_1).f3), .int .i64 ((rd_T40 l0_1 x21_1).f4), .int .i64 ((rd_T40 l0_1 x21_1).f5), .bool ((rd_T40 l0_1 x21_1).f6)] 40 (0, 0)) (by (with_reducible repeat (first | refine blk_drewN ?_ _ | refine blk_drew ?_ | refine blk_alloc ?_ _)); exact BK123.out) hb); have n5_ := Aside0.mk (blk_below (g := gb128) (o := .cells #[.int .i64 ((rd_T40 l0_1 x34_2).f0), .int .i64 ((rd_T40 l0_1 x34_2).f1), .string ((rd_T40 l0_1 x34_2).f2), .string ((rd_T40 l0_1 x34_2).f3), .int .i64 ((rd_T40 l0_1 x34_2).f4), .int .i64 ((rd_T40 l0_1 x34_2).f5), .bool ((rd_T40 l0_1 x34_2).f6)] 40 (0, 0)) (by (with_reducible repeat (first | refine blk_drewN ?_ _ | refine blk_drew ?_ | refine blk_alloc ?_ _)); exact BK128.out) hb); have n6_ := Aside0.mk (below_step (by repeat (first | (with_reducible first | exact HB.out | apply below_alloc | apply pw_below_drewN | apply below_drew1 | refine below_set ?_ GE120.out | refine below_set ?_ GE123.out | refine below_set ?_ GE128.out) | exact HB.out)) hb); have n7_ := Aside0.mk (hbox); have n8_ := Aside0.mk ((by rw [hg]; exact (below_size (by repeat (first | (with_reducible first | exact HB.out | apply below_alloc | apply pw_below_drewN | apply below_drew1 | refine below_set ?_ GE120.out | refine below_set ?_ GE123.out | refine below_set ?_ GE128.out) | exact HB.out))) : w.heap.size ≤ gb130)); have n9_ := Aside0.mk ((by rw [hg]; exact (below_size (by repeat (first | (with_reducible first | exact HB.out | apply below_alloc | apply pw_below_drewN | apply below_drew1 | refine below_set ?_ GE120.out | refine below_set ?_ GE123.out | refine below_set ?_ GE128.out) | exact HB.out))) : w.heap.size ≤ gb130)); have n10_ := Aside0.mk ((by rw [hg]; exact Nat.ne_of_lt (blk_lt (g := gb120) (o := .cells #[.int .i64 a0_0, .slice (some ad122) l0_1.length c0_1] 30 (0, 0)) (by (with_reducible repeat (first | refine blk_drewN ?_ _ | refine blk_drew ?_ | refine blk_alloc ?_ _)); exact BK120.out)) : gb120 ≠ gb130)); have n11_ := Aside0.mk ((by rw [hg]; exact Nat.ne_of_gt (blk_lt (g := gb120) (o := .cells #[.int .i64 a0_0, .slice (some ad122) l0_1.length c0_1] 30 (0, 0)) (by (with_reducible repeat (first | refine blk_drewN ?_ _ | refine blk_drew ?_ | refine blk_alloc ?_ _)); exact BK120.out)) : gb130 ≠ gb120)); have n12_ := Aside0.mk ((by rw [hg]; exact Nat.ne_of_lt (blk_lt (g := gb123) (o := .cells #[.int .i64 ((rd_T40 l0_1 x21_1).f0), .int .i64 ((rd_T40 l0_1 x21_1).f1), .string ((rd_T40 l0_1 x21_1).f2), .string ((rd_T40 l0_1 x21_1).f3), .int .i64 ((rd_T40 l0_1 x21_1).f4), .int .i64 ((rd_T40 l0_1 x21_1).f5), .bool ((rd_T40 l0_1 x21_1).f6)] 40 (0, 0)) (by (with_reducible repeat (first | refine blk_drewN ?_ _ | refine blk_drew ?_ | refine blk_alloc ?_ _)); exact BK123.out)) : gb123 ≠ gb130)); have n13_ := Aside0.mk ((by rw [hg]; exact Nat.ne_of_gt (blk_lt (g := gb123) (o := .cells #[.int .i64 ((rd_T40 l0_1 x21_1).f0), .int .i64 ((rd_T40 l0_1 x21_1).f1), .string ((rd_T40 l0_1 x21_1).f2), .string ((rd_T40 l0_1 x21_1).f3), .int .i64 ((rd_T40 l0_1 x21_1).f4), .int .i64 ((rd_T40 l0_1 x21_1).f5), .bool ((rd_T40 l0_1 x21_1).f6)] 40 (0, 0)) (by (with_reducible repeat (first | refine blk_drewN ?_ _ | refine blk_drew ?_ | refine blk_alloc ?_ _)); exact BK123.out)) : gb130 ≠ gb123)); have n14_ := Aside0.mk ((by rw [hg]; exact Nat.ne_of_lt (blk_lt (g := gb128) (o := .cells #[.int .i64 ((rd_T40 l0_1 x34_2).f0), .int .i64 ((rd_T40 l0_1 x34_2).f1), .string ((rd_T40 l0_1 x34_2).f2), .string ((rd_T40 l0_1 x34_2).f3), .int .i64 ((rd_T40 l0_1 x34_2).f4), .int .i64 ((rd_T40 l0_1 x34_2).f5), .bool ((rd_T40 l0_1 x34_2).f6)] 40 (0, 0)) (by (with_reducible repeat (first | refine blk_drewN ?_ _ | refine blk_drew ?_ | refine blk_alloc ?_ _)); exact BK128.out)) : gb128 ≠ gb130)); have n15_ := Aside0.mk ((by rw [hg]; exact Nat.ne_of_gt (blk_lt (g := gb128) (o := .cells #[.int .i64 ((rd_T40 l0_1 x34_2).f0), .int .i64 ((rd_T40 l0_1 x34_2).f1), .string ((rd_T40 l0_1 x34_2).f2), .string ((rd_T40 l0_1 x34_2).f3), .int .i64 ((rd_T40 l0_1 x34_2).f4), .int .i64 ((rd_T40 l0_1 x34_2).f5), .bool ((rd_T40 l0_1 x34_2).f6)] 40 (0, 0)) (by (with_reducible repeat (first | refine blk_drewN ?_ _ | refine blk_drew ?_ | refine blk_alloc ?_ _)); exact BK128.out)) : gb130 ≠ gb128)); clear HO_3; clear HO_9; clear HO_43; clear BK120; clear BK123; clear BK128; clear HB; have HO_3 := n0_; have HO_9 := n1_; have HO_43 := n2_; have BK120 := n3_; have BK123 := n4_; have BK128 := n5_; have HB := n6_; have BK130 := n7_; have GW130 := n8_; have GE130 := n9_; have NB120_130 := n10_; have NB130_120 := n11_; have NB123_130 := n12_; have NB130_123 := n13_; have NB128_130 := n14_; have NB130_128 := n15_; clear n0_ n1_ n2_ n3_ n4_ n5_ n6_ n7_ n8_ n9_ n10_ n11_ n12_ n13_ n14_ n15_; clear hb hbox hg; have hnb53 := NB130_120.out; have hnc53 := NB120_130.out; have hnb54 := NB130_123.out; have hnc54 := NB123_130.out; have hnb55 := NB130_128.out; have hnc55 := NB128_130.out; have hcz56_0 : w52.cell? ⟨gb130, 0, none⟩ = some (.int .i64 0) := (blk_cell BK130.out 0).trans rfl; have hcz56_1 : w52.cell? ⟨gb130, 1, none⟩ = some (.int .i64 0) := (blk_cell BK130.out 1).trans rfl; have hfz56_0 := blk_frozen BK130.out 0; have hfz56_1 := blk_frozen BK130.out 1; have hnb57 := NB128_120.out; have hnc57 := NB120_128.out; have hnb58 := NB128_123.out; have hnc58 := NB123_128.out; have hcz59_0 : w52.cell? ⟨gb128, 0, none⟩ = some (.int .i64 ((rd_T40 l0_1 x34_2).f0)) := (blk_cell BK128.out 0).trans rfl; have hcz59_1 : w52.cell? ⟨gb128, 1, none⟩ = some (.int .i64 ((rd_T40 l0_1 x34_2).f1)) := (blk_cell BK128.out 1).trans rfl; have hcz59_2 : w52.cell? ⟨gb128, 2, none⟩ = some (.string ((rd_T40 l0_1 x34_2).f2)) := (blk_cell BK128.out 2).trans rfl; have hcz59_3 : w52.cell? ⟨gb128, 3, none⟩ = some (.string ((rd_T40 l0_1 x34_2).f3)) := (blk_cell BK128.out 3).trans rfl; have hcz59_4 : w52.cell? ⟨gb128, 4, none⟩ = some (.int .i64 ((rd_T40 l0_1 x34_2).f4)) := (blk_cell BK128.out 4).trans rfl; have hcz59_5 : w52.cell? ⟨gb128, 5, none⟩ = some (.int .i64 ((rd_T40 l0_1 x34_2).f5)) := (blk_cell BK128.out 5).trans rfl; have hcz59_6 : w52.cell? ⟨gb128, 6, none⟩ = some (.bool ((rd_T40 l0_1 x34_2).f6)) := (blk_cell BK128.out 6).trans rfl; have hfz59_0 := blk_frozen BK128.out 0; have hfz59_1 := blk_frozen BK128.out 1; have hfz59_2 := blk_frozen BK128.out 2; have hfz59_3 := blk_frozen BK128.out 3; have hfz59_4 := blk_frozen BK128.out 4; have hfz59_5 := blk_frozen BK128.out 5; have hfz59_6 := blk_frozen BK128.out 6))
                                          have n0_ : Aside0 (Kd.R (Kd.int .i64) 3 ((w52.setCell ⟨gb130, 0, none⟩ (.int .i64 ((rd_T42 x6_2 x45_3).f0))).setCell ⟨gb130, 1, none⟩ (.int .i64 ((rd_T42 x6_2 x45_3).f1))) w.heap.size (fun _ => True) u3 x3_1) := ⟨by (with_reducible repeat (first | apply Kd.R_alloc | apply Kd.R_drewN | apply Kd.R_drew)); exact Kd.R_mono (Kd.R_far (p := ⟨gb130, 1, none⟩) (Kd.R_far (p := ⟨gb130, 0, none⟩) (Kd.R_types HO_3.out BK130.out (by decide)) (fun _ hk => hk.2) (.int .i64 ((rd_T42 x6_2 x45_3).f0))) (fun _ hk => hk.2) (.int .i64 ((rd_T42 x6_2 x45_3).f1))) (fun _ hk => trivial)⟩
                                          have n1_ : Aside0 (Kd.R k42 42 ((w52.setCell ⟨gb130, 0, none⟩ (.int .i64 ((rd_T42 x6_2 x45_3).f0))).setCell ⟨gb130, 1, none⟩ (.int .i64 ((rd_T42 x6_2 x45_3).f1))) w.heap.size (fun k_ => some k_ ≠ (.slice (some ad129) x6_2.length co27 : Value).ownBlock ∧ k_ ≠ gb130) u9 x9_3) := ⟨by (with_reducible repeat (first | apply Kd.R_alloc | apply Kd.R_drewN | apply Kd.R_drew)); exact Kd.R_mono (Kd.R_far (p := ⟨gb130, 1, none⟩) (Kd.R_far (p := ⟨gb130, 0, none⟩) (Kd.R_mono HO_9.out (fun k_ hk => (⟨hk, hk.2⟩ : _ ∧ k_ ≠ gb130))) (fun _ hk => hk.2) (.int .i64 ((rd_T42 x6_2 x45_3).f0))) (fun _ hk => hk.2) (.int .i64 ((rd_T42 x6_2 x45_3).f1))) (fun _ hk => ⟨hk.1.1, hk.1.2⟩)⟩
                                          have n2_ : Aside0 (Kd.R k42 42 ((w52.setCell ⟨gb130, 0, none⟩ (.int .i64 ((rd_T42 x6_2 x45_3).f0))).setCell ⟨gb130, 1, none⟩ (.int .i64 ((rd_T42 x6_2 x45_3).f1))) w.heap.size (fun k_ => some k_ ≠ (u9 : Value).ownBlock ∧ k_ ≠ gb130) (.slice (some ad129) x6_2.length co27) x6_2) := ⟨by (with_reducible repeat (first | apply Kd.R_alloc | apply Kd.R_drewN | apply Kd.R_drew)); exact Kd.R_mono (Kd.R_far (p := ⟨gb130, 1, none⟩) (Kd.R_far (p := ⟨gb130, 0, none⟩) (Kd.R_mono HO_43.out (fun k_ hk => (⟨hk, hk.2⟩ : _ ∧ k_ ≠ gb130))) (fun _ hk => hk.2) (.int .i64 ((rd_T42 x6_2 x45_3).f0))) (fun _ hk => hk.2) (.int .i64 ((rd_T42 x6_2 x45_3).f1))) (fun _ hk => ⟨hk.1.1, hk.1.2⟩)⟩
                                          have n3_ : Aside0 (((w52.setCell ⟨gb130, 0, none⟩ (.int .i64 ((rd_T42 x6_2 x45_3).f0))).setCell ⟨gb130, 1, none⟩ (.int .i64 ((rd_T42 x6_2 x45_3).f1))).heap[gb120]? = some (.cells #[.int .i64 a0_0, .slice (some ad122) l0_1.length c0_1] 30 (0, 0))) := ⟨by (with_reducible repeat (first | refine blk_drewN ?_ _ | refine blk_drew ?_ | refine blk_alloc ?_ _)); refine blk_far ?_ NB120_130.out _; (with_reducible repeat (first | refine blk_drewN ?_ _ | refine blk_drew ?_ | refine blk_alloc ?_ _)); refine blk_far ?_ NB120_130.out _; (with_reducible repeat (first | refine blk_drewN ?_ _ | refine blk_drew ?_ | refine blk_alloc ?_ _)); exact BK120.out⟩
                                          have n4_ : Aside0 (((w52.setCell ⟨gb130, 0, none⟩ (.int .i64 ((rd_T42 x6_2 x45_3).f0))).setCell ⟨gb130, 1, none⟩ (.int .i64 ((rd_T42 x6_2 x45_3).f1))).heap[gb123]? = some (.cells #[.int .i64 ((rd_T40 l0_1 x21_1).f0), .int .i64 ((rd_T40 l0_1 x21_1).f1), .string ((rd_T40 l0_1 x21_1).f2), .string ((rd_T40 l0_1 x21_1).f3), .int .i64 ((rd_T40 l0_1 x21_1).f4), .int .i64 ((rd_T40 l0_1 x21_1).f5), .bool ((rd_T40 l0_1 x21_1).f6)] 40 (0, 0))) := ⟨by (with_reducible repeat (first | refine blk_drewN ?_ _ | refine blk_drew ?_ | refine blk_alloc ?_ _)); refine blk_far ?_ NB123_130.out _; (with_reducible repeat (first | refine blk_drewN ?_ _ | refine blk_drew ?_ | refine blk_alloc ?_ _)); refine blk_far ?_ NB123_130.out _; (with_reducible repeat (first | refine blk_drewN ?_ _ | refine blk_drew ?_ | refine blk_alloc ?_ _)); exact BK123.out⟩
                                          have n5_ : Aside0 (((w52.setCell ⟨gb130, 0, none⟩ (.int .i64 ((rd_T42 x6_2 x45_3).f0))).setCell ⟨gb130, 1, none⟩ (.int .i64 ((rd_T42 x6_2 x45_3).f1))).heap[gb128]? = some (.cells #[.int .i64 ((rd_T40 l0_1 x34_2).f0), .int .i64 ((rd_T40 l0_1 x34_2).f1), .string ((rd_T40 l0_1 x34_2).f2), .string ((rd_T40 l0_1 x34_2).f3), .int .i64 ((rd_T40 l0_1 x34_2).f4), .int .i64 ((rd_T40 l0_1 x34_2).f5), .bool ((rd_T40 l0_1 x34_2).f6)] 40 (0, 0))) := ⟨by (with_reducible repeat (first | refine blk_drewN ?_ _ | refine blk_drew ?_ | refine blk_alloc ?_ _)); refine blk_far ?_ NB128_130.out _; (with_reducible repeat (first | refine blk_drewN ?_ _ | refine blk_drew ?_ | refine blk_alloc ?_ _)); refine blk_far ?_ NB128_130.out _; (with_reducible repeat (first | refine blk_drewN ?_ _ | refine blk_drew ?_ | refine blk_alloc ?_ _)); exact BK128.out⟩
                                          have n6_ : Aside0 (((w52.setCell ⟨gb130, 0, none⟩ (.int .i64 ((rd_T42 x6_2 x45_3).f0))).setCell ⟨gb130, 1, none⟩ (.int .i64 ((rd_T42 x6_2 x45_3).f1))).heap[gb130]? = some (.cells #[.int .i64 ((rd_T42 x6_2 x45_3).f0), .int .i64 ((rd_T42 x6_2 x45_3).f1)] 42 (0, 0))) := ⟨by (with_reducible repeat (first | refine blk_drewN ?_ _ | refine blk_drew ?_ | refine blk_alloc ?_ _)); refine blk_put (cs := #[.int .i64 ((rd_T42 x6_2 x45_3).f0), .int .i64 0]) ?_ 1 _ rfl; (with_reducible repeat (first | refine blk_drewN ?_ _ | refine blk_drew ?_ | refine blk_alloc ?_ _)); refine blk_put (cs := #[.int .i64 0, .int .i64 0]) ?_ 0 _ rfl; (with_reducible repeat (first | refine blk_drewN ?_ _ | refine blk_drew ?_ | refine blk_alloc ?_ _)); exact BK130.out⟩
                                          have n7_ : Aside0 (Below w.heap.size w ((w52.setCell ⟨gb130, 0, none⟩ (.int .i64 ((rd_T42 x6_2 x45_3).f0))).setCell ⟨gb130, 1, none⟩ (.int .i64 ((rd_T42 x6_2 x45_3).f1)))) := ⟨by repeat (first | (with_reducible first | exact HB.out | apply below_alloc | apply pw_below_drewN | apply below_drew1 | refine below_set ?_ GE120.out | refine below_set ?_ GE123.out | refine below_set ?_ GE128.out | refine below_set ?_ GE130.out) | exact HB.out)⟩
                                          (try clear HO_3)
                                          (try clear HO_9)
                                          (try clear HO_43)
                                          (try clear BK120)
                                          (try clear BK123)
                                          (try clear BK128)
                                          (try clear BK130)
                                          (try clear HB)
                                          generalize ((w52.setCell ⟨gb130, 0, none⟩ (.int .i64 ((rd_T42 x6_2 x45_3).f0))).setCell ⟨gb130, 1, none⟩ (.int .i64 ((rd_T42 x6_2 x45_3).f1))) = w60 at n0_ n1_ n2_ n3_ n4_ n5_ n6_ n7_ ⊢
                                          have HO_3 := n0_
                                          have HO_9 := n1_
                                          have HO_43 := n2_
                                          have BK120 := n3_
                                          have BK123 := n4_
                                          have BK128 := n5_
                                          have BK130 := n6_
                                          have HB := n7_
                                          clear n0_ n1_ n2_ n3_ n4_ n5_ n6_ n7_
                                          have n0_ := Aside0.mk (Kd.R_drew HO_3.out)
                                          have n1_ := Aside0.mk (Kd.R_drew HO_9.out)
                                          have n2_ := Aside0.mk (Kd.R_drew HO_43.out)
                                          have n3_ := Aside0.mk (blk_drew BK120.out)
                                          have n4_ := Aside0.mk (blk_drew BK123.out)
                                          have n5_ := Aside0.mk (blk_drew BK128.out)
                                          have n6_ := Aside0.mk (blk_drew BK130.out)
                                          have n7_ := Aside0.mk (below_drew1 HB.out)
                                          clear HO_3
                                          clear HO_9
                                          clear HO_43
                                          clear BK120
                                          clear BK123
                                          clear BK128
                                          clear BK130
                                          clear HB
                                          have HO_3 := n0_
                                          have HO_9 := n1_
                                          have HO_43 := n2_
                                          have BK120 := n3_
                                          have BK123 := n4_
                                          have BK128 := n5_
                                          have BK130 := n6_
                                          have HB := n7_
                                          clear n0_ n1_ n2_ n3_ n4_ n5_ n6_ n7_
                                          refine start_ (n := 12) (S := fun w' => w'.cell? ⟨gb130, 0, none⟩ = some (.int .i64 ((rd_T42 x6_2 x45_3).f0)) ∧ w'.cell? ⟨gb130, 1, none⟩ = some (.int .i64 ((rd_T42 x6_2 x45_3).f1)) ∧ w'.cell? ⟨gb128, 0, none⟩ = some (.int .i64 ((rd_T40 l0_1 x34_2).f0)) ∧ w'.cell? ⟨gb128, 1, none⟩ = some (.int .i64 ((rd_T40 l0_1 x34_2).f1)) ∧ w'.cell? ⟨gb128, 2, none⟩ = some (.string ((rd_T40 l0_1 x34_2).f2)) ∧ w'.cell? ⟨gb128, 3, none⟩ = some (.string ((rd_T40 l0_1 x34_2).f3)) ∧ w'.cell? ⟨gb128, 4, none⟩ = some (.int .i64 ((rd_T40 l0_1 x34_2).f4)) ∧ w'.cell? ⟨gb128, 5, none⟩ = some (.int .i64 ((rd_T40 l0_1 x34_2).f5)) ∧ w'.cell? ⟨gb128, 6, none⟩ = some (.bool ((rd_T40 l0_1 x34_2).f6))) (ds := []) #[false, false, false, false, false, false, false, false, false, false, false, false] (by kernel_rfl) rfl rfl ⟨(blk_cell BK130.out 0).trans rfl, (blk_cell BK130.out 1).trans rfl, (blk_cell BK128.out 0).trans rfl, (blk_cell BK128.out 1).trans rfl, (blk_cell BK128.out 2).trans rfl, (blk_cell BK128.out 3).trans rfl, (blk_cell BK128.out 4).trans rfl, (blk_cell BK128.out 5).trans rfl, (blk_cell BK128.out 6).trans rfl⟩ (fun hHeld => ?_); refine with_tabW spec_SelfTimes.tab17 spec_SelfTimes.bits17 (fun HT_ HW_ => ?_)
                                          generalize w60.drew = w61 at HO_3 HO_9 HO_43 BK120 BK123 BK128 BK130 HB hHeld ⊢
                                          refine pure_ (i := 0) (N := some 54) (v := ?_) (a' := ?_) #[true, false, false, false, false, false, false, false, false, false, false, false] rfl rfl (any_of HT_.out (by kernel_rfl)) (fun _ _ _ h => h) (Or.inl ⟨by rfl, ?_⟩) ?_ ?_
                                          rotate_left
                                          · intro w'
                                            go_simp
                                            with_reducible rfl
                                          rotate_left
                                          · simp only [Act.put, List.setIfInBounds_toArray, List.set_cons_zero, List.set_cons_succ, i64_w, i32_w]
                                            rfl
                                          refine pure_ (i := 1) (N := some 55) (v := ?_) (a' := ?_) #[true, true, false, false, false, false, false, false, false, false, false, false] rfl rfl (any_of HT_.out (by kernel_rfl)) (fun _ _ _ h => h) (Or.inl ⟨by rfl, ?_⟩) ?_ ?_
                                          rotate_left
                                          · intro w'
                                            go_simp
                                            with_reducible rfl
                                          rotate_left
                                          · simp only [Act.put, List.setIfInBounds_toArray, List.set_cons_zero, List.set_cons_succ, i64_w, i32_w]
                                            rfl
                                          refine pure_ (i := 3) (N := some 57) (v := ?_) (a' := ?_) #[true, true, false, true, false, false, false, false, false, false, false, false] rfl rfl (any_of HT_.out (by kernel_rfl)) (fun _ _ _ h => h) (Or.inl ⟨by rfl, ?_⟩) ?_ ?_
                                          rotate_left
                                          · intro w'
                                            go_simp
                                            with_reducible rfl
                                          rotate_left
                                          · simp only [Act.put, List.setIfInBounds_toArray, List.set_cons_zero, List.set_cons_succ, i64_w, i32_w]
                                            rfl
                                          refine pure_ (i := 5) (N := some 59) (v := ?_) (a' := ?_) #[true, true, false, true, false, true, false, false, false, false, false, false] rfl rfl (any_of HT_.out (by kernel_rfl)) (fun _ _ _ h => h) (Or.inl ⟨by rfl, ?_⟩) ?_ ?_
                                          rotate_left
                                          · intro w'
                                            go_simp
                                            with_reducible rfl
                                          rotate_left
                                          · simp only [Act.put, List.setIfInBounds_toArray, List.set_cons_zero, List.set_cons_succ, i64_w, i32_w]
                                            rfl
                                          refine take_ (i := 2) (N := some 56) (v := ?_) (a' := ?_) #[true, true, true, true, false, true, false, false, false, false, false, false] rfl rfl (take_ofW HT_.out HW_.out (by kernel_rfl)) (fun _ _ _ h => h) (Or.inl ⟨by rfl, ?_⟩) hHeld ?_ ?_
                                          rotate_left
                                          · rintro w' ⟨s0, s1, s2, s3, s4, s5, s6, s7, s8⟩
                                            go_simp
                                            with_reducible rfl
                                          rotate_left
                                          · simp only [Act.put, List.setIfInBounds_toArray, List.set_cons_zero, List.set_cons_succ, i64_w, i32_w]
                                            rfl
                                          refine take_ (i := 4) (N := some 58) (v := ?_) (a' := ?_) #[true, true, true, true, true, true, false, false, false, false, false, false] rfl rfl (take_ofW HT_.out HW_.out (by kernel_rfl)) (fun _ _ _ h => h) (Or.inl ⟨by rfl, ?_⟩) hHeld ?_ ?_
                                          rotate_left
                                          · rintro w' ⟨s0, s1, s2, s3, s4, s5, s6, s7, s8⟩
                                            go_simp
                                            with_reducible rfl
                                          rotate_left
                                          · simp only [Act.put, List.setIfInBounds_toArray, List.set_cons_zero, List.set_cons_succ, i64_w, i32_w]
                                            rfl
                                          refine take_ (i := 6) (N := some 60) (v := ?_) (a' := ?_) #[true, true, true, true, true, true, true, false, false, false, false, false] rfl rfl (take_ofW HT_.out HW_.out (by kernel_rfl)) (fun _ _ _ h => h) (Or.inl ⟨by rfl, ?_⟩) hHeld ?_ ?_
                                          rotate_left
                                          · rintro w' ⟨s0, s1, s2, s3, s4, s5, s6, s7, s8⟩
                                            go_simp
                                            with_reducible rfl
                                          rotate_left
                                          · simp only [Act.put, List.setIfInBounds_toArray, List.set_cons_zero, List.set_cons_succ, i64_w, i32_w]
                                            rfl
                                          refine one_ (i := 7) (N := some 61) #[true, true, true, true, true, true, true, true, false, false, false, false] rfl rfl (one_of HT_.out (by kernel_rfl)) (by decide) (fun K hK => ?_)
                                          refine goes_ Try.func15 (by kernel_rfl) rfl #[.int .i64 ((rd_T42 x6_2 x45_3).f1), .int .i64 ((rd_T40 l0_1 x34_2).f4)] (by rfl) rfl rfl (by (try simp only [List.map_toArray, List.map_cons, List.map_nil]); first | done | rfl | (simp only [List.length_drop, List.length_take]; rfl)) ?_
                                          with_reducible refine (spec_l23Less.calls ((rd_T42 x6_2 x45_3).f1) ((rd_T40 l0_1 x34_2).f4) t131 _ A32.out).mono ?_
                                          rintro e w' ⟨rfl, ⟨nd, rfl⟩⟩
                                          refine ⟨_, rfl, ?_⟩
                                          refine hK.out _ _ ⟨(blk_cell BK130.out 0).trans rfl, (blk_cell BK130.out 1).trans rfl, (blk_cell BK128.out 0).trans rfl, (blk_cell BK128.out 1).trans rfl, (blk_cell BK128.out 2).trans rfl, (blk_cell BK128.out 3).trans rfl, (blk_cell BK128.out 4).trans rfl, (blk_cell BK128.out 5).trans rfl, (blk_cell BK128.out 6).trans rfl⟩ (fun hHeld => ?_)
                                          clear hK K
                                          refine norm_ (a' := ?_) ?_ ?_
                                          rotate_left
                                          · show Act.put _ (some 61) _ = _
                                            simp only [Act.put, List.setIfInBounds_toArray, List.set_cons_zero, List.set_cons_succ, i64_w, i32_w]
                                            rfl
                                          refine pure_ (i := 8) (N := some 62) (v := ?_) (a' := ?_) #[true, true, true, true, true, true, true, true, true, false, false, false] rfl rfl (any_of HT_.out (by kernel_rfl)) (fun _ _ _ h => h) (Or.inl ⟨by rfl, ?_⟩) ?_ ?_
                                          rotate_left
                                          · intro w'
                                            go_simp
                                            with_reducible rfl
                                          rotate_left
                                          · simp only [Act.put, List.setIfInBounds_toArray, List.set_cons_zero, List.set_cons_succ, i64_w, i32_w]
                                            rfl
                                          refine one_ (i := 9) (N := some 63) #[true, true, true, true, true, true, true, true, true, true, false, false] rfl rfl (one_of HT_.out (by kernel_rfl)) (by decide) (fun K hK => ?_)
                                          refine value_ (w1 := ?_) (v := ?_) (by rfl) rfl ?_ ?_
                                          rotate_left 2
                                          · go_simp
                                            constructor
                                            · rfl
                                            · rfl
                                          refine hK.out _ _ ⟨(blk_cell (blk_alloc BK130.out _) 0).trans rfl, (blk_cell (blk_alloc BK130.out _) 1).trans rfl, (blk_cell (blk_alloc BK128.out _) 0).trans rfl, (blk_cell (blk_alloc BK128.out _) 1).trans rfl, (blk_cell (blk_alloc BK128.out _) 2).trans rfl, (blk_cell (blk_alloc BK128.out _) 3).trans rfl, (blk_cell (blk_alloc BK128.out _) 4).trans rfl, (blk_cell (blk_alloc BK128.out _) 5).trans rfl, (blk_cell (blk_alloc BK128.out _) 6).trans rfl⟩ (fun hHeld => ?_)
                                          clear hK K
                                          refine norm_ (a' := ?_) ?_ ?_
                                          rotate_left
                                          · show Act.put _ (some 63) _ = _
                                            simp only [Act.put, List.setIfInBounds_toArray, List.set_cons_zero, List.set_cons_succ, i64_w, i32_w]
                                            rfl
                                          refine one_ (i := 10) (N := some 64) #[true, true, true, true, true, true, true, true, true, true, true, false] rfl rfl (one_of HT_.out (by kernel_rfl)) (by decide) (fun K hK => ?_)
                                          refine Kd.R_append_step k42 (w0 := w) w.heap.size (by rfl) (.tmp 54) (.tmp 63) 43 42 (.agg #[(.int .i64 0), (.int .i64 0)]) 16 rfl Try.underlying43 info42 rfl (by decide) (by omega) u9 x9_3 (⟨(rd_T42 x6_2 x45_3).f0, t131⟩ : S42) [.int .i64 ((rd_T42 x6_2 x45_3).f0), .int .i64 t131] (fun k_ => some k_ ≠ (.slice (some ad129) x6_2.length co27 : Value).ownBlock ∧ k_ ≠ gb130) (fun _ => False) rfl rfl ?aP (fun _ hk => hk.elim) ?aF ?aO ?aB ?aS ?aL ?_
                                          (case aP => exact k42_mkM _ _ _ (⟨(rd_T42 x6_2 x45_3).f0, t131⟩ : S42))
                                          (case aB => exact (by repeat (first | (with_reducible first | exact HB.out | apply below_alloc | apply pw_below_drewN | apply below_drew1 | refine below_set ?_ GE120.out | refine below_set ?_ GE123.out | refine below_set ?_ GE128.out | refine below_set ?_ GE130.out) | exact HB.out)))
                                          (case aF => exact (fun k_ hk => ⟨Kd.fresh' (Kd.R_lt (by (with_reducible repeat (first | apply Kd.R_alloc | apply Kd.R_drewN | apply Kd.R_drew)); exact HO_43.out)) k_ hk, Kd.freshB (g := gb130) (o := .cells #[.int .i64 ((rd_T42 x6_2 x45_3).f0), .int .i64 ((rd_T42 x6_2 x45_3).f1)] 42 (0, 0)) (by (with_reducible repeat (first | refine blk_drewN ?_ _ | refine blk_drew ?_ | refine blk_alloc ?_ _)); exact BK130.out) k_ hk⟩))
                                          (case aO => exact (by (with_reducible repeat (first | apply Kd.R_alloc | apply Kd.R_drewN | apply Kd.R_drew)); exact HO_9.out))
                                          (case aS => exact (below_size (by repeat (first | (with_reducible first | exact HB.out | apply below_alloc | apply pw_below_drewN | apply below_drew1 | refine below_set ?_ GE120.out | refine below_set ?_ GE123.out | refine below_set ?_ GE128.out | refine below_set ?_ GE130.out) | exact HB.out))))
                                          (case aL => have := LMc33.out; omega)
                                          intro v133 w62 ho hb hg hat
                                          rw [← Ny132.out] at ho
                                          have n0_ := Aside0.mk (Kd.R_over' (by (with_reducible repeat (first | apply Kd.R_alloc | apply Kd.R_drewN | apply Kd.R_drew)); exact HO_3.out) (Kd.R_typed (by (with_reducible repeat (first | apply Kd.R_alloc | apply Kd.R_drewN | apply Kd.R_drew)); exact HO_9.out)) (by decide) hg)
                                          have n1_ := Aside0.mk (Kd.R_after (ok := (fun k_ => k_ ≠ gb130)) (by (with_reducible repeat (first | apply Kd.R_alloc | apply Kd.R_drewN | apply Kd.R_drew)); exact Kd.R_mono HO_43.out (fun _ hk => ⟨hk.2, hk.1⟩)) hg hat)
                                          have n2_ := Aside0.mk (blk_grown (g := gb120) (o := .cells #[.int .i64 a0_0, .slice (some ad122) l0_1.length c0_1] 30 (0, 0)) (by (with_reducible repeat (first | refine blk_drewN ?_ _ | refine blk_drew ?_ | refine blk_alloc ?_ _)); exact BK120.out) hg (Kd.R_ne HO_9.out BK120.out (by decide)))
                                          have n3_ := Aside0.mk (blk_grown (g := gb123) (o := .cells #[.int .i64 ((rd_T40 l0_1 x21_1).f0), .int .i64 ((rd_T40 l0_1 x21_1).f1), .string ((rd_T40 l0_1 x21_1).f2), .string ((rd_T40 l0_1 x21_1).f3), .int .i64 ((rd_T40 l0_1 x21_1).f4), .int .i64 ((rd_T40 l0_1 x21_1).f5), .bool ((rd_T40 l0_1 x21_1).f6)] 40 (0, 0)) (by (with_reducible repeat (first | refine blk_drewN ?_ _ | refine blk_drew ?_ | refine blk_alloc ?_ _)); exact BK123.out) hg (Kd.R_ne HO_9.out BK123.out (by decide)))
                                          have n4_ := Aside0.mk (blk_grown (g := gb128) (o := .cells #[.int .i64 ((rd_T40 l0_1 x34_2).f0), .int .i64 ((rd_T40 l0_1 x34_2).f1), .string ((rd_T40 l0_1 x34_2).f2), .string ((rd_T40 l0_1 x34_2).f3), .int .i64 ((rd_T40 l0_1 x34_2).f4), .int .i64 ((rd_T40 l0_1 x34_2).f5), .bool ((rd_T40 l0_1 x34_2).f6)] 40 (0, 0)) (by (with_reducible repeat (first | refine blk_drewN ?_ _ | refine blk_drew ?_ | refine blk_alloc ?_ _)); exact BK128.out) hg (Kd.R_ne HO_9.out BK128.out (by decide)))
                                          have n5_ := Aside0.mk (blk_grown (g := gb130) (o := .cells #[.int .i64 ((rd_T42 x6_2 x45_3).f0), .int .i64 ((rd_T42 x6_2 x45_3).f1)] 42 (0, 0)) (by (with_reducible repeat (first | refine blk_drewN ?_ _ | refine blk_drew ?_ | refine blk_alloc ?_ _)); exact BK130.out) hg (Kd.R_away HO_9.out (fun _ hk => hk.2)))
                                          have n6_ := Aside0.mk (hb)
                                          have n7_ := Aside0.mk (ho)
                                          clear HO_3
                                          clear HO_43
                                          clear BK120
                                          clear BK123
                                          clear BK128
                                          clear BK130
                                          clear HB
                                          clear HO_9
                                          have HO_3 := n0_
                                          have HO_43 := n1_
                                          have BK120 := n2_
                                          have BK123 := n3_
                                          have BK128 := n4_
                                          have BK130 := n5_
                                          have HB := n6_
                                          have HO134 := n7_
                                          clear n0_ n1_ n2_ n3_ n4_ n5_ n6_ n7_
                                          clear ho hb hg hat
                                          refine hK.out _ _ ⟨(blk_cell BK130.out 0).trans rfl, (blk_cell BK130.out 1).trans rfl, (blk_cell BK128.out 0).trans rfl, (blk_cell BK128.out 1).trans rfl, (blk_cell BK128.out 2).trans rfl, (blk_cell BK128.out 3).trans rfl, (blk_cell BK128.out 4).trans rfl, (blk_cell BK128.out 5).trans rfl, (blk_cell BK128.out 6).trans rfl⟩ (fun hHeld => ?_)
                                          clear hK K
                                          refine norm_ (a' := ?_) ?_ ?_
                                          rotate_left
                                          · show Act.put _ (some 64) _ = _
                                            simp only [Act.put, List.setIfInBounds_toArray, List.set_cons_zero, List.set_cons_succ, i64_w, i32_w]
                                            rfl
                                          refine pure_ (i := 11) (N := some 9) (v := ?_) (a' := ?_) #[true, true, true, true, true, true, true, true, true, true, true, true] rfl rfl (any_of HT_.out (by kernel_rfl)) (fun _ _ _ h => h) (Or.inl ⟨by rfl, ?_⟩) ?_ ?_
                                          rotate_left
                                          · intro w'
                                            go_simp
                                            with_reducible rfl
                                          rotate_left
                                          · simp only [Act.put, List.setIfInBounds_toArray, List.set_cons_zero, List.set_cons_succ, i64_w, i32_w]
                                            rfl
                                          refine done_ (done_of HT_.out (by kernel_rfl)) ?_
                                          have hcz63_0 : w62.cell? ⟨gb128, 0, none⟩ = some (.int .i64 ((rd_T40 l0_1 x34_2).f0)) := (blk_cell BK128.out 0).trans rfl
                                          have hcz63_1 : w62.cell? ⟨gb128, 1, none⟩ = some (.int .i64 ((rd_T40 l0_1 x34_2).f1)) := (blk_cell BK128.out 1).trans rfl
                                          have hcz63_2 : w62.cell? ⟨gb128, 2, none⟩ = some (.string ((rd_T40 l0_1 x34_2).f2)) := (blk_cell BK128.out 2).trans rfl
                                          have hcz63_3 : w62.cell? ⟨gb128, 3, none⟩ = some (.string ((rd_T40 l0_1 x34_2).f3)) := (blk_cell BK128.out 3).trans rfl
                                          have hcz63_4 : w62.cell? ⟨gb128, 4, none⟩ = some (.int .i64 ((rd_T40 l0_1 x34_2).f4)) := (blk_cell BK128.out 4).trans rfl
                                          have hcz63_5 : w62.cell? ⟨gb128, 5, none⟩ = some (.int .i64 ((rd_T40 l0_1 x34_2).f5)) := (blk_cell BK128.out 5).trans rfl
                                          have hcz63_6 : w62.cell? ⟨gb128, 6, none⟩ = some (.bool ((rd_T40 l0_1 x34_2).f6)) := (blk_cell BK128.out 6).trans rfl
                                          have hfz63_0 := blk_frozen BK128.out 0
                                          have hfz63_1 := blk_frozen BK128.out 1
                                          have hfz63_2 := blk_frozen BK128.out 2
                                          have hfz63_3 := blk_frozen BK128.out 3
                                          have hfz63_4 := blk_frozen BK128.out 4
                                          have hfz63_5 := blk_frozen BK128.out 5
                                          have hfz63_6 := blk_frozen BK128.out 6
                                          have hcz64_0 : w62.cell? ⟨gb130, 0, none⟩ = some (.int .i64 ((rd_T42 x6_2 x45_3).f0)) := (blk_cell BK130.out 0).trans rfl
                                          have hcz64_1 : w62.cell? ⟨gb130, 1, none⟩ = some (.int .i64 ((rd_T42 x6_2 x45_3).f1)) := (blk_cell BK130.out 1).trans rfl
                                          have hfz64_0 := blk_frozen BK130.out 0
                                          have hfz64_1 := blk_frozen BK130.out 1
                                          try go_wp2
                                          go_roundg k3
                                          case measure => have := HK1.out; have := HK2.out; have := HK3.out; omega
                                          case rel => exact ⟨(y132), (wrap64 (x45_3 + 1)), (by first | rfl | (simp; done) | (simp [*]; done)), H', ⟨by have := HK1.out; have := HK2.out; have := HK3.out; omega⟩, ⟨by (with_reducible repeat (first | apply Kd.R_alloc | apply Kd.R_drewN | apply Kd.R_drew)); exact HO_3.out⟩, ⟨by (with_reducible repeat (first | apply Kd.R_alloc | apply Kd.R_drewN | apply Kd.R_drew)); exact Kd.R_mono HO134.out (fun _ hk => hk.1)⟩, ⟨by (with_reducible repeat (first | apply Kd.R_alloc | apply Kd.R_drewN | apply Kd.R_drew)); exact Kd.R_mono HO_43.out (fun _ hk => hk.2)⟩, ⟨by (with_reducible repeat (first | refine blk_drewN ?_ _ | refine blk_drew ?_ | refine blk_alloc ?_ _)); exact BK120.out⟩, ⟨by (with_reducible repeat (first | refine blk_drewN ?_ _ | refine blk_drew ?_ | refine blk_alloc ?_ _)); exact BK123.out⟩, ⟨by (with_reducible repeat (first | refine blk_drewN ?_ _ | refine blk_drew ?_ | refine blk_alloc ?_ _)); exact BK128.out⟩, ⟨by repeat (first | (with_reducible first | exact HB.out | apply below_alloc | apply pw_below_drewN | apply below_drew1 | refine below_set ?_ GE120.out | refine below_set ?_ GE123.out | refine below_set ?_ GE128.out | refine below_set ?_ GE130.out) | exact HB.out)⟩⟩
                                      · rw [if_neg c33] at H
                                        exact absurd H (by simp)
                                    · rw [if_neg c31] at H
                                      have c31b0 : decide (((rd_T42 x6_2 x45_3).f0) < ((rd_T40 l0_1 x34_2).f4)) = false := decide_eq_false c31
                                      clear c31
                                      by_cases c65 : ((rd_T40 l0_1 x34_2).f5) < ((rd_T42 x6_2 x45_3).f1)
                                      · rw [if_pos c65] at H
                                        have c65b0 : decide (((rd_T40 l0_1 x34_2).f5) < ((rd_T42 x6_2 x45_3).f1)) = true := decide_eq_true c65
                                        clear c65
                                        replace H := Option.bind_eq_some_iff.mp H
                                        obtain ⟨t139, A660, H⟩ := H
                                        replace H : (if x9_3.length < 8796093022208 then (spec_SelfTimes.l2 k3 x3_1 (x9_3 ++ [(⟨t139, (rd_T42 x6_2 x45_3).f1⟩ : S42)]) l0_1 (l0_1.length : Int) x21_1 l0_1 (l0_1.length : Int) x34_2 x6_2 (x6_2.length : Int) (wrap64 (x45_3 + 1)) a0_0 l0_1 ((rd_T40 l0_1 x21_1).f0) ((rd_T40 l0_1 x21_1).f1) ((rd_T40 l0_1 x21_1).f2) ((rd_T40 l0_1 x21_1).f3) ((rd_T40 l0_1 x21_1).f4) ((rd_T40 l0_1 x21_1).f5) ((rd_T40 l0_1 x21_1).f6) ((rd_T40 l0_1 x34_2).f0) ((rd_T40 l0_1 x34_2).f1) ((rd_T40 l0_1 x34_2).f2) ((rd_T40 l0_1 x34_2).f3) ((rd_T40 l0_1 x34_2).f4) ((rd_T40 l0_1 x34_2).f5) ((rd_T40 l0_1 x34_2).f6)) else (none)) = some r := H
                                        have A66 := Aside0.mk A660
                                        clear A660
                                        by_cases c67 : x9_3.length < 8796093022208
                                        · rw [if_pos c67] at H
                                          have LMc67 := Aside0.mk c67
                                          clear c67
                                          obtain ⟨y140, hy140⟩ : ∃ y_ : List (S42), y_ = (x9_3 ++ [(⟨t139, (rd_T42 x6_2 x45_3).f1⟩ : S42)]) := ⟨_, rfl⟩
                                          replace H : (spec_SelfTimes.l2 k3 x3_1 y140 l0_1 (l0_1.length : Int) x21_1 l0_1 (l0_1.length : Int) x34_2 x6_2 (x6_2.length : Int) (wrap64 (x45_3 + 1)) a0_0 l0_1 ((rd_T40 l0_1 x21_1).f0) ((rd_T40 l0_1 x21_1).f1) ((rd_T40 l0_1 x21_1).f2) ((rd_T40 l0_1 x21_1).f3) ((rd_T40 l0_1 x21_1).f4) ((rd_T40 l0_1 x21_1).f5) ((rd_T40 l0_1 x21_1).f6) ((rd_T40 l0_1 x34_2).f0) ((rd_T40 l0_1 x34_2).f1) ((rd_T40 l0_1 x34_2).f2) ((rd_T40 l0_1 x34_2).f3) ((rd_T40 l0_1 x34_2).f4) ((rd_T40 l0_1 x34_2).f5) ((rd_T40 l0_1 x34_2).f6)) = some r := by first | (rw [hy140]; with_reducible exact H) | (have H2_ := (Option.bind_some _ _).symm.trans H; rw [hy140]; with_reducible exact H2_) | (have H2_ := (Option.bind_some _ _).symm.trans H; with_reducible exact H2_) | with_reducible exact H | (rw [hy140]; exact H) | exact H
                                          have Ny140 := Aside0.mk hy140
                                          clear hy140
                                          have H' := Aside0.mk H
                                          clear H
                                          have p129 : 0 ≤ (x45_3 : Int) := of_decide_eq_true (by first | (with_reducible assumption) | assumption)
                                          have q129 : x45_3 < (x6_2.length : Int) := of_decide_eq_true (by first | (with_reducible assumption) | assumption)
                                          obtain ⟨ad129, e129, hx129_0, hx129_1⟩ := at_T42 (Kd.R_reads' HO_43.out).2.2 x45_3 p129 q129
                                          cases e129
                                          replace p129 := eq_true p129
                                          replace q129 := eq_true q129
                                          try go_wp2_with (first | ((with_reducible refine gate_dst (N := 11) rfl ?_); refine box_event ?hg (N := 11) ?hd (cs := #[.int .i64 0, .int .i64 0]) (t := 42) ?hr ?_; (case hd => rfl); (case hg => rfl); (case hr => first | (go_simp; done) | (go_simp; rfl)); intro gb130 hg w68 hbox hb; have n0_ := Aside0.mk (Kd.R_below (by (with_reducible repeat (first | apply Kd.R_alloc | apply Kd.R_drewN | apply Kd.R_drew)); exact HO_3.out) hb); have n1_ := Aside0.mk (Kd.R_below (Kd.R_elderB (by (with_reducible repeat (first | apply Kd.R_alloc | apply Kd.R_drewN | apply Kd.R_drew)); exact HO_9.out) gb130 (Nat.le_of_eq hg.symm)) hb); have n2_ := Aside0.mk (Kd.R_below (Kd.R_elderB (by (with_reducible repeat (first | apply Kd.R_alloc | apply Kd.R_drewN | apply Kd.R_drew)); exact HO_43.out) gb130 (Nat.le_of_eq hg.symm)) hb); have n3_ := Aside0.mk (blk_below (g := gb120) (o := .cells #[.int .i64 a0_0, .slice (some ad122) l0_1.length c0_1] 30 (0, 0)) (by (with_reducible repeat (first | refine blk_drewN ?_ _ | refine blk_drew ?_ | refine blk_alloc ?_ _)); exact BK120.out) hb); have n4_ := Aside0.mk (blk_below (g := gb123) (o := .cells #[.int .i64 ((rd_T40 l0_1 x21_1).f0), .int .i64 ((rd_T40 l0_1 x21_1).f1), .string ((rd_T40 l0_1 x21_1).f2), .string ((rd_T40 l0_1 x21_1).f3), .int .i64 ((rd_T40 l0_1 x21_1).f4), .int .i64 ((rd_T40 l0_1 x21_1).f5), .bool ((rd_T40 l0_1 x21_1).f6)] 40 (0, 0)) (by (with_reducible repeat (first | refine blk_drewN ?_ _ | refine blk_drew ?_ | refine blk_alloc ?_ _)); exact BK123.out) hb); have n5_ := Aside0.mk (blk_below (g := gb128) (o := .cells #[.int .i64 ((rd_T40 l0_1 x34_2).f0), .int .i64 ((rd_T40 l0_1 x34_2).f1), .string ((rd_T40 l0_1 x34_2).f2), .string ((rd_T40 l0_1 x34_2).f3), .int .i64 ((rd_T40 l0_1 x34_2).f4), .int .i64 ((rd_T40 l0_1 x34_2).f5), .bool ((rd_T40 l0_1 x34_2).f6)] 40 (0, 0)) (by (with_reducible repeat (first | refine blk_drewN ?_ _ | refine blk_drew ?_ | refine blk_alloc ?_ _)); exact BK128.out) hb); have n6_ := Aside0.mk (below_step (by repeat (first | (with_reducible first | exact HB.out | apply below_alloc | apply pw_below_drewN | apply below_drew1 | refine below_set ?_ GE120.out | refine below_set ?_ GE123.out | refine below_set ?_ GE128.out) | exact HB.out)) hb); have n7_ := Aside0.mk (hbox); have n8_ := Aside0.mk ((by rw [hg]; exact (below_size (by repeat (first | (with_reducible first | exact HB.out | apply below_alloc | apply pw_below_drewN | apply below_drew1 | refine below_set ?_ GE120.out | refine below_set ?_ GE123.out | refine below_set ?_ GE128.out) | exact HB.out))) : w.heap.size ≤ gb130)); have n9_ := Aside0.mk ((by rw [hg]; exact (below_size (by repeat (first | (with_reducible first | exact HB.out | apply below_alloc | apply pw_below_drewN | apply below_drew1 | refine below_set ?_ GE120.out | refine below_set ?_ GE123.out | refine below_set ?_ GE128.out) | exact HB.out))) : w.heap.size ≤ gb130)); have n10_ := Aside0.mk ((by rw [hg]; exact Nat.ne_of_lt (blk_lt (g := gb120) (o := .cells #[.int .i64 a0_0, .slice (some ad122) l0_1.length c0_1] 30 (0, 0)) (by (with_reducible repeat (first | refine blk_drewN ?_ _ | refine blk_drew ?_ | refine blk_alloc ?_ _)); exact BK120.out)) : gb120 ≠ gb130)); have n11_ := Aside0.mk ((by rw [hg]; exact Nat.ne_of_gt (blk_lt (g := gb120) (o := .cells #[.int .i64 a0_0, .slice (some ad122) l0_1.length c0_1] 30 (0, 0)) (by (with_reducible repeat (first | refine blk_drewN ?_ _ | refine blk_drew ?_ | refine blk_alloc ?_ _)); exact BK120.out)) : gb130 ≠ gb120)); have n12_ := Aside0.mk ((by rw [hg]; exact Nat.ne_of_lt (blk_lt (g := gb123) (o := .cells #[.int .i64 ((rd_T40 l0_1 x21_1).f0), .int .i64 ((rd_T40 l0_1 x21_1).f1), .string ((rd_T40 l0_1 x21_1).f2), .string ((rd_T40 l0_1 x21_1).f3), .int .i64 ((rd_T40 l0_1 x21_1).f4), .int .i64 ((rd_T40 l0_1 x21_1).f5), .bool ((rd_T40 l0_1 x21_1).f6)] 40 (0, 0)) (by (with_reducible repeat (first | refine blk_drewN ?_ _ | refine blk_drew ?_ | refine blk_alloc ?_ _)); exact BK123.out)) : gb123 ≠ gb130)); have n13_ := Aside0.mk ((by rw [hg]; exact Nat.ne_of_gt (blk_lt (g := gb123) (o := .cells #[.int .i64 ((rd_T40 l0_1 x21_1).f0), .int .i64 ((rd_T40 l0_1 x21_1).f1), .string ((rd_T40 l0_1 x21_1).f2), .string ((rd_T40 l0_1 x21_1).f3), .int .i64 ((rd_T40 l0_1 x21_1).f4), .int .i64 ((rd_T40 l0_1 x21_1).f5), .bool ((rd_T40 l0_1 x21_1).f6)] 40 (0, 0)) (by (with_reducible repeat (first | refine blk_drewN ?_ _ | refine blk_drew ?_ | refine blk_alloc ?_ _)); exact BK123.out)) : gb130 ≠ gb123)); have n14_ := Aside0.mk ((by rw [hg]; exact Nat.ne_of_lt (blk_lt (g := gb128) (o := .cells #[.int .i64 ((rd_T40 l0_1 x34_2).f0), .int .i64 ((rd_T40 l0_1 x34_2).f1), .string ((rd_T40 l0_1 x34_2).f2), .string ((rd_T40 l0_1 x34_2).f3), .int .i64 ((rd_T40 l0_1 x34_2).f4), .int .i64 ((rd_T40 l0_1 x34_2).f5), .bool ((rd_T40 l0_1 x34_2).f6)] 40 (0, 0)) (by (with_reducible repeat (first | refine blk_drewN ?_ _ | refine blk_drew ?_ | refine blk_alloc ?_ _)); exact BK128.out)) : gb128 ≠ gb130)); have n15_ := Aside0.mk ((by rw [hg]; exact Nat.ne_of_gt (blk_lt (g := gb128) (o := .cells #[.int .i64 ((rd_T40 l0_1 x34_2).f0), .int .i64 ((rd_T40 l0_1 x34_2).f1), .string ((rd_T40 l0_1 x34_2).f2), .string ((rd_T40 l0_1 x34_2).f3), .int .i64 ((rd_T40 l0_1 x34_2).f4), .int .i64 ((rd_T40 l0_1 x34_2).f5), .bool ((rd_T40 l0_1 x34_2).f6)] 40 (0, 0)) (by (with_reducible repeat (first | refine blk_drewN ?_ _ | refine blk_drew ?_ | refine blk_alloc ?_ _)); exact BK128.out)) : gb130 ≠ gb128)); clear HO_3; clear HO_9; clear HO_43; clear BK120; clear BK123; clear BK128; clear HB; have HO_3 := n0_; have HO_9 := n1_; have HO_43 := n2_; have BK120 := n3_; have BK123 := n4_; have BK128 := n5_; have HB := n6_; have BK130 := n7_; have GW130 := n8_; have GE130 := n9_; have NB120_130 := n10_; have NB130_120 := n11_; have NB123_130 := n12_; have NB130_123 := n13_; have NB128_130 := n14_; have NB130_128 := n15_; clear n0_ n1_ n2_ n3_ n4_ n5_ n6_ n7_ n8_ n9_ n10_ n11_ n12_ n13_ n14_ n15_; clear hb hbox hg; have hnb69 := NB130_120.out; have hnc69 := NB120_130.out; have hnb70 := NB130_123.out; have hnc70 := NB123_130.out; have hnb71 := NB130_128.out; have hnc71 := NB128_130.out; have hcz72_0 : w68.cell? ⟨gb130, 0, none⟩ = some (.int .i64 0) := (blk_cell BK130.out 0).trans rfl; have hcz72_1 : w68.cell? ⟨gb130, 1, none⟩ = some (.int .i64 0) := (blk_cell BK130.out 1).trans rfl; have hfz72_0 := blk_frozen BK130.out 0; have hfz72_1 := blk_frozen BK130.out 1; have hnb73 := NB128_120.out; have hnc73 := NB120_128.out; have hnb74 := NB128_123.out; have hnc74 := NB123_128.out; have hcz75_0 : w68.cell? ⟨gb128, 0, none⟩ = some (.int .i64 ((rd_T40 l0_1 x34_2).f0)) := (blk_cell BK128.out 0).trans rfl; have hcz75_1 : w68.cell? ⟨gb128, 1, none⟩ = some (.int .i64 ((rd_T40 l0_1 x34_2).f1)) := (blk_cell BK128.out 1).trans rfl; have hcz75_2 : w68.cell? ⟨gb128, 2, none⟩ = some (.string ((rd_T40 l0_1 x34_2).f2)) := (blk_cell BK128.out 2).trans rfl; have hcz75_3 : w68.cell? ⟨gb128, 3, none⟩ = some (.string ((rd_T40 l0_1 x34_2).f3)) := (blk_cell BK128.out 3).trans rfl; have hcz75_4 : w68.cell? ⟨gb128, 4, none⟩ = some (.int .i64 ((rd_T40 l0_1 x34_2).f4)) := (blk_cell BK128.out 4).trans rfl; have hcz75_5 : w68.cell? ⟨gb128, 5, none⟩ = some (.int .i64 ((rd_T40 l0_1 x34_2).f5)) := (blk_cell BK128.out 5).trans rfl; have hcz75_6 : w68.cell? ⟨gb128, 6, none⟩ = some (.bool ((rd_T40 l0_1 x34_2).f6)) := (blk_cell BK128.out 6).trans rfl; have hfz75_0 := blk_frozen BK128.out 0; have hfz75_1 := blk_frozen BK128.out 1; have hfz75_2 := blk_frozen BK128.out 2; have hfz75_3 := blk_frozen BK128.out 3; have hfz75_4 := blk_frozen BK128.out 4; have hfz75_5 := blk_frozen BK128.out 5; have hfz75_6 := blk_frozen BK128.out 6))
                                          have n0_ : Aside0 (Kd.R (Kd.int .i64) 3 ((w68.setCell ⟨gb130, 0, none⟩ (.int .i64 ((rd_T42 x6_2 x45_3).f0))).setCell ⟨gb130, 1, none⟩ (.int .i64 ((rd_T42 x6_2 x45_3).f1))) w.heap.size (fun _ => True) u3 x3_1) := ⟨by (with_reducible repeat (first | apply Kd.R_alloc | apply Kd.R_drewN | apply Kd.R_drew)); exact Kd.R_mono (Kd.R_far (p := ⟨gb130, 1, none⟩) (Kd.R_far (p := ⟨gb130, 0, none⟩) (Kd.R_types HO_3.out BK130.out (by decide)) (fun _ hk => hk.2) (.int .i64 ((rd_T42 x6_2 x45_3).f0))) (fun _ hk => hk.2) (.int .i64 ((rd_T42 x6_2 x45_3).f1))) (fun _ hk => trivial)⟩
                                          have n1_ : Aside0 (Kd.R k42 42 ((w68.setCell ⟨gb130, 0, none⟩ (.int .i64 ((rd_T42 x6_2 x45_3).f0))).setCell ⟨gb130, 1, none⟩ (.int .i64 ((rd_T42 x6_2 x45_3).f1))) w.heap.size (fun k_ => some k_ ≠ (.slice (some ad129) x6_2.length co27 : Value).ownBlock ∧ k_ ≠ gb130) u9 x9_3) := ⟨by (with_reducible repeat (first | apply Kd.R_alloc | apply Kd.R_drewN | apply Kd.R_drew)); exact Kd.R_mono (Kd.R_far (p := ⟨gb130, 1, none⟩) (Kd.R_far (p := ⟨gb130, 0, none⟩) (Kd.R_mono HO_9.out (fun k_ hk => (⟨hk, hk.2⟩ : _ ∧ k_ ≠ gb130))) (fun _ hk => hk.2) (.int .i64 ((rd_T42 x6_2 x45_3).f0))) (fun _ hk => hk.2) (.int .i64 ((rd_T42 x6_2 x45_3).f1))) (fun _ hk => ⟨hk.1.1, hk.1.2⟩)⟩
                                          have n2_ : Aside0 (Kd.R k42 42 ((w68.setCell ⟨gb130, 0, none⟩ (.int .i64 ((rd_T42 x6_2 x45_3).f0))).setCell ⟨gb130, 1, none⟩ (.int .i64 ((rd_T42 x6_2 x45_3).f1))) w.heap.size (fun k_ => some k_ ≠ (u9 : Value).ownBlock ∧ k_ ≠ gb130) (.slice (some ad129) x6_2.length co27) x6_2) := ⟨by (with_reducible repeat (first | apply Kd.R_alloc | apply Kd.R_drewN | apply Kd.R_drew)); exact Kd.R_mono (Kd.R_far (p := ⟨gb130, 1, none⟩) (Kd.R_far (p := ⟨gb130, 0, none⟩) (Kd.R_mono HO_43.out (fun k_ hk => (⟨hk, hk.2⟩ : _ ∧ k_ ≠ gb130))) (fun _ hk => hk.2) (.int .i64 ((rd_T42 x6_2 x45_3).f0))) (fun _ hk => hk.2) (.int .i64 ((rd_T42 x6_2 x45_3).f1))) (fun _ hk => ⟨hk.1.1, hk.1.2⟩)⟩
                                          have n3_ : Aside0 (((w68.setCell ⟨gb130, 0, none⟩ (.int .i64 ((rd_T42 x6_2 x45_3).f0))).setCell ⟨gb130, 1, none⟩ (.int .i64 ((rd_T42 x6_2 x45_3).f1))).heap[gb120]? = some (.cells #[.int .i64 a0_0, .slice (some ad122) l0_1.length c0_1] 30 (0, 0))) := ⟨by (with_reducible repeat (first | refine blk_drewN ?_ _ | refine blk_drew ?_ | refine blk_alloc ?_ _)); refine blk_far ?_ NB120_130.out _; (with_reducible repeat (first | refine blk_drewN ?_ _ | refine blk_drew ?_ | refine blk_alloc ?_ _)); refine blk_far ?_ NB120_130.out _; (with_reducible repeat (first | refine blk_drewN ?_ _ | refine blk_drew ?_ | refine blk_alloc ?_ _)); exact BK120.out⟩
                                          have n4_ : Aside0 (((w68.setCell ⟨gb130, 0, none⟩ (.int .i64 ((rd_T42 x6_2 x45_3).f0))).setCell ⟨gb130, 1, none⟩ (.int .i64 ((rd_T42 x6_2 x45_3).f1))).heap[gb123]? = some (.cells #[.int .i64 ((rd_T40 l0_1 x21_1).f0), .int .i64 ((rd_T40 l0_1 x21_1).f1), .string ((rd_T40 l0_1 x21_1).f2), .string ((rd_T40 l0_1 x21_1).f3), .int .i64 ((rd_T40 l0_1 x21_1).f4), .int .i64 ((rd_T40 l0_1 x21_1).f5), .bool ((rd_T40 l0_1 x21_1).f6)] 40 (0, 0))) := ⟨by (with_reducible repeat (first | refine blk_drewN ?_ _ | refine blk_drew ?_ | refine blk_alloc ?_ _)); refine blk_far ?_ NB123_130.out _; (with_reducible repeat (first | refine blk_drewN ?_ _ | refine blk_drew ?_ | refine blk_alloc ?_ _)); refine blk_far ?_ NB123_130.out _; (with_reducible repeat (first | refine blk_drewN ?_ _ | refine blk_drew ?_ | refine blk_alloc ?_ _)); exact BK123.out⟩
                                          have n5_ : Aside0 (((w68.setCell ⟨gb130, 0, none⟩ (.int .i64 ((rd_T42 x6_2 x45_3).f0))).setCell ⟨gb130, 1, none⟩ (.int .i64 ((rd_T42 x6_2 x45_3).f1))).heap[gb128]? = some (.cells #[.int .i64 ((rd_T40 l0_1 x34_2).f0), .int .i64 ((rd_T40 l0_1 x34_2).f1), .string ((rd_T40 l0_1 x34_2).f2), .string ((rd_T40 l0_1 x34_2).f3), .int .i64 ((rd_T40 l0_1 x34_2).f4), .int .i64 ((rd_T40 l0_1 x34_2).f5), .bool ((rd_T40 l0_1 x34_2).f6)] 40 (0, 0))) := ⟨by (with_reducible repeat (first | refine blk_drewN ?_ _ | refine blk_drew ?_ | refine blk_alloc ?_ _)); refine blk_far ?_ NB128_130.out _; (with_reducible repeat (first | refine blk_drewN ?_ _ | refine blk_drew ?_ | refine blk_alloc ?_ _)); refine blk_far ?_ NB128_130.out _; (with_reducible repeat (first | refine blk_drewN ?_ _ | refine blk_drew ?_ | refine blk_alloc ?_ _)); exact BK128.out⟩
                                          have n6_ : Aside0 (((w68.setCell ⟨gb130, 0, none⟩ (.int .i64 ((rd_T42 x6_2 x45_3).f0))).setCell ⟨gb130, 1, none⟩ (.int .i64 ((rd_T42 x6_2 x45_3).f1))).heap[gb130]? = some (.cells #[.int .i64 ((rd_T42 x6_2 x45_3).f0), .int .i64 ((rd_T42 x6_2 x45_3).f1)] 42 (0, 0))) := ⟨by (with_reducible repeat (first | refine blk_drewN ?_ _ | refine blk_drew ?_ | refine blk_alloc ?_ _)); refine blk_put (cs := #[.int .i64 ((rd_T42 x6_2 x45_3).f0), .int .i64 0]) ?_ 1 _ rfl; (with_reducible repeat (first | refine blk_drewN ?_ _ | refine blk_drew ?_ | refine blk_alloc ?_ _)); refine blk_put (cs := #[.int .i64 0, .int .i64 0]) ?_ 0 _ rfl; (with_reducible repeat (first | refine blk_drewN ?_ _ | refine blk_drew ?_ | refine blk_alloc ?_ _)); exact BK130.out⟩
                                          have n7_ : Aside0 (Below w.heap.size w ((w68.setCell ⟨gb130, 0, none⟩ (.int .i64 ((rd_T42 x6_2 x45_3).f0))).setCell ⟨gb130, 1, none⟩ (.int .i64 ((rd_T42 x6_2 x45_3).f1)))) := ⟨by repeat (first | (with_reducible first | exact HB.out | apply below_alloc | apply pw_below_drewN | apply below_drew1 | refine below_set ?_ GE120.out | refine below_set ?_ GE123.out | refine below_set ?_ GE128.out | refine below_set ?_ GE130.out) | exact HB.out)⟩
                                          (try clear HO_3)
                                          (try clear HO_9)
                                          (try clear HO_43)
                                          (try clear BK120)
                                          (try clear BK123)
                                          (try clear BK128)
                                          (try clear BK130)
                                          (try clear HB)
                                          generalize ((w68.setCell ⟨gb130, 0, none⟩ (.int .i64 ((rd_T42 x6_2 x45_3).f0))).setCell ⟨gb130, 1, none⟩ (.int .i64 ((rd_T42 x6_2 x45_3).f1))) = w76 at n0_ n1_ n2_ n3_ n4_ n5_ n6_ n7_ ⊢
                                          have HO_3 := n0_
                                          have HO_9 := n1_
                                          have HO_43 := n2_
                                          have BK120 := n3_
                                          have BK123 := n4_
                                          have BK128 := n5_
                                          have BK130 := n6_
                                          have HB := n7_
                                          clear n0_ n1_ n2_ n3_ n4_ n5_ n6_ n7_
                                          have n0_ := Aside0.mk (Kd.R_drew HO_3.out)
                                          have n1_ := Aside0.mk (Kd.R_drew HO_9.out)
                                          have n2_ := Aside0.mk (Kd.R_drew HO_43.out)
                                          have n3_ := Aside0.mk (blk_drew BK120.out)
                                          have n4_ := Aside0.mk (blk_drew BK123.out)
                                          have n5_ := Aside0.mk (blk_drew BK128.out)
                                          have n6_ := Aside0.mk (blk_drew BK130.out)
                                          have n7_ := Aside0.mk (below_drew1 HB.out)
                                          clear HO_3
                                          clear HO_9
                                          clear HO_43
                                          clear BK120
                                          clear BK123
                                          clear BK128
                                          clear BK130
                                          clear HB
                                          have HO_3 := n0_
                                          have HO_9 := n1_
                                          have HO_43 := n2_
                                          have BK120 := n3_
                                          have BK123 := n4_
                                          have BK128 := n5_
                                          have BK130 := n6_
                                          have HB := n7_
                                          clear n0_ n1_ n2_ n3_ n4_ n5_ n6_ n7_
                                          refine start_ (n := 12) (S := fun w' => w'.cell? ⟨gb130, 0, none⟩ = some (.int .i64 ((rd_T42 x6_2 x45_3).f0)) ∧ w'.cell? ⟨gb130, 1, none⟩ = some (.int .i64 ((rd_T42 x6_2 x45_3).f1)) ∧ w'.cell? ⟨gb128, 0, none⟩ = some (.int .i64 ((rd_T40 l0_1 x34_2).f0)) ∧ w'.cell? ⟨gb128, 1, none⟩ = some (.int .i64 ((rd_T40 l0_1 x34_2).f1)) ∧ w'.cell? ⟨gb128, 2, none⟩ = some (.string ((rd_T40 l0_1 x34_2).f2)) ∧ w'.cell? ⟨gb128, 3, none⟩ = some (.string ((rd_T40 l0_1 x34_2).f3)) ∧ w'.cell? ⟨gb128, 4, none⟩ = some (.int .i64 ((rd_T40 l0_1 x34_2).f4)) ∧ w'.cell? ⟨gb128, 5, none⟩ = some (.int .i64 ((rd_T40 l0_1 x34_2).f5)) ∧ w'.cell? ⟨gb128, 6, none⟩ = some (.bool ((rd_T40 l0_1 x34_2).f6))) (ds := []) #[false, false, false, false, false, false, false, false, false, false, false, false] (by kernel_rfl) rfl rfl ⟨(blk_cell BK130.out 0).trans rfl, (blk_cell BK130.out 1).trans rfl, (blk_cell BK128.out 0).trans rfl, (blk_cell BK128.out 1).trans rfl, (blk_cell BK128.out 2).trans rfl, (blk_cell BK128.out 3).trans rfl, (blk_cell BK128.out 4).trans rfl, (blk_cell BK128.out 5).trans rfl, (blk_cell BK128.out 6).trans rfl⟩ (fun hHeld => ?_); refine with_tabW spec_SelfTimes.tab19 spec_SelfTimes.bits19 (fun HT_ HW_ => ?_)
                                          generalize w76.drew = w77 at HO_3 HO_9 HO_43 BK120 BK123 BK128 BK130 HB hHeld ⊢
                                          refine pure_ (i := 0) (N := some 70) (v := ?_) (a' := ?_) #[true, false, false, false, false, false, false, false, false, false, false, false] rfl rfl (any_of HT_.out (by kernel_rfl)) (fun _ _ _ h => h) (Or.inl ⟨by rfl, ?_⟩) ?_ ?_
                                          rotate_left
                                          · intro w'
                                            go_simp
                                            with_reducible rfl
                                          rotate_left
                                          · simp only [Act.put, List.setIfInBounds_toArray, List.set_cons_zero, List.set_cons_succ, i64_w, i32_w]
                                            rfl
                                          refine pure_ (i := 1) (N := some 71) (v := ?_) (a' := ?_) #[true, true, false, false, false, false, false, false, false, false, false, false] rfl rfl (any_of HT_.out (by kernel_rfl)) (fun _ _ _ h => h) (Or.inl ⟨by rfl, ?_⟩) ?_ ?_
                                          rotate_left
                                          · intro w'
                                            go_simp
                                            with_reducible rfl
                                          rotate_left
                                          · simp only [Act.put, List.setIfInBounds_toArray, List.set_cons_zero, List.set_cons_succ, i64_w, i32_w]
                                            rfl
                                          refine pure_ (i := 3) (N := some 73) (v := ?_) (a' := ?_) #[true, true, false, true, false, false, false, false, false, false, false, false] rfl rfl (any_of HT_.out (by kernel_rfl)) (fun _ _ _ h => h) (Or.inl ⟨by rfl, ?_⟩) ?_ ?_
                                          rotate_left
                                          · intro w'
                                            go_simp
                                            with_reducible rfl
                                          rotate_left
                                          · simp only [Act.put, List.setIfInBounds_toArray, List.set_cons_zero, List.set_cons_succ, i64_w, i32_w]
                                            rfl
                                          refine pure_ (i := 6) (N := some 76) (v := ?_) (a' := ?_) #[true, true, false, true, false, false, true, false, false, false, false, false] rfl rfl (any_of HT_.out (by kernel_rfl)) (fun _ _ _ h => h) (Or.inl ⟨by rfl, ?_⟩) ?_ ?_
                                          rotate_left
                                          · intro w'
                                            go_simp
                                            with_reducible rfl
                                          rotate_left
                                          · simp only [Act.put, List.setIfInBounds_toArray, List.set_cons_zero, List.set_cons_succ, i64_w, i32_w]
                                            rfl
                                          refine take_ (i := 2) (N := some 72) (v := ?_) (a' := ?_) #[true, true, true, true, false, false, true, false, false, false, false, false] rfl rfl (take_ofW HT_.out HW_.out (by kernel_rfl)) (fun _ _ _ h => h) (Or.inl ⟨by rfl, ?_⟩) hHeld ?_ ?_
                                          rotate_left
                                          · rintro w' ⟨s0, s1, s2, s3, s4, s5, s6, s7, s8⟩
                                            go_simp
                                            with_reducible rfl
                                          rotate_left
                                          · simp only [Act.put, List.setIfInBounds_toArray, List.set_cons_zero, List.set_cons_succ, i64_w, i32_w]
                                            rfl
                                          refine take_ (i := 4) (N := some 74) (v := ?_) (a' := ?_) #[true, true, true, true, true, false, true, false, false, false, false, false] rfl rfl (take_ofW HT_.out HW_.out (by kernel_rfl)) (fun _ _ _ h => h) (Or.inl ⟨by rfl, ?_⟩) hHeld ?_ ?_
                                          rotate_left
                                          · rintro w' ⟨s0, s1, s2, s3, s4, s5, s6, s7, s8⟩
                                            go_simp
                                            with_reducible rfl
                                          rotate_left
                                          · simp only [Act.put, List.setIfInBounds_toArray, List.set_cons_zero, List.set_cons_succ, i64_w, i32_w]
                                            rfl
                                          refine take_ (i := 7) (N := some 77) (v := ?_) (a' := ?_) #[true, true, true, true, true, false, true, true, false, false, false, false] rfl rfl (take_ofW HT_.out HW_.out (by kernel_rfl)) (fun _ _ _ h => h) (Or.inl ⟨by rfl, ?_⟩) hHeld ?_ ?_
                                          rotate_left
                                          · rintro w' ⟨s0, s1, s2, s3, s4, s5, s6, s7, s8⟩
                                            go_simp
                                            with_reducible rfl
                                          rotate_left
                                          · simp only [Act.put, List.setIfInBounds_toArray, List.set_cons_zero, List.set_cons_succ, i64_w, i32_w]
                                            rfl
                                          refine one_ (i := 5) (N := some 75) #[true, true, true, true, true, true, true, true, false, false, false, false] rfl rfl (one_of HT_.out (by kernel_rfl)) (by decide) (fun K hK => ?_)
                                          refine goes_ Try.func16 (by kernel_rfl) rfl #[.int .i64 ((rd_T42 x6_2 x45_3).f0), .int .i64 ((rd_T40 l0_1 x34_2).f5)] (by rfl) rfl rfl (by (try simp only [List.map_toArray, List.map_cons, List.map_nil]); first | done | rfl | (simp only [List.length_drop, List.length_take]; rfl)) ?_
                                          with_reducible refine (spec_l23More.calls ((rd_T42 x6_2 x45_3).f0) ((rd_T40 l0_1 x34_2).f5) t139 _ A66.out).mono ?_
                                          rintro e w' ⟨rfl, ⟨nd, rfl⟩⟩
                                          refine ⟨_, rfl, ?_⟩
                                          refine hK.out _ _ ⟨(blk_cell BK130.out 0).trans rfl, (blk_cell BK130.out 1).trans rfl, (blk_cell BK128.out 0).trans rfl, (blk_cell BK128.out 1).trans rfl, (blk_cell BK128.out 2).trans rfl, (blk_cell BK128.out 3).trans rfl, (blk_cell BK128.out 4).trans rfl, (blk_cell BK128.out 5).trans rfl, (blk_cell BK128.out 6).trans rfl⟩ (fun hHeld => ?_)
                                          clear hK K
                                          refine norm_ (a' := ?_) ?_ ?_
                                          rotate_left
                                          · show Act.put _ (some 75) _ = _
                                            simp only [Act.put, List.setIfInBounds_toArray, List.set_cons_zero, List.set_cons_succ, i64_w, i32_w]
                                            rfl
                                          refine pure_ (i := 8) (N := some 78) (v := ?_) (a' := ?_) #[true, true, true, true, true, true, true, true, true, false, false, false] rfl rfl (any_of HT_.out (by kernel_rfl)) (fun _ _ _ h => h) (Or.inl ⟨by rfl, ?_⟩) ?_ ?_
                                          rotate_left
                                          · intro w'
                                            go_simp
                                            with_reducible rfl
                                          rotate_left
                                          · simp only [Act.put, List.setIfInBounds_toArray, List.set_cons_zero, List.set_cons_succ, i64_w, i32_w]
                                            rfl
                                          refine one_ (i := 9) (N := some 79) #[true, true, true, true, true, true, true, true, true, true, false, false] rfl rfl (one_of HT_.out (by kernel_rfl)) (by decide) (fun K hK => ?_)
                                          refine value_ (w1 := ?_) (v := ?_) (by rfl) rfl ?_ ?_
                                          rotate_left 2
                                          · go_simp
                                            constructor
                                            · rfl
                                            · rfl
                                          refine hK.out _ _ ⟨(blk_cell (blk_alloc BK130.out _) 0).trans rfl, (blk_cell (blk_alloc BK130.out _) 1).trans rfl, (blk_cell (blk_alloc BK128.out _) 0).trans rfl, (blk_cell (blk_alloc BK128.out _) 1).trans rfl, (blk_cell (blk_alloc BK128.out _) 2).trans rfl, (blk_cell (blk_alloc BK128.out _) 3).trans rfl, (blk_cell (blk_alloc BK128.out _) 4).trans rfl, (blk_cell (blk_alloc BK128.out _) 5).trans rfl, (blk_cell (blk_alloc BK128.out _) 6).trans rfl⟩ (fun hHeld => ?_)
                                          clear hK K
                                          refine norm_ (a' := ?_) ?_ ?_
                                          rotate_left
                                          · show Act.put _ (some 79) _ = _
                                            simp only [Act.put, List.setIfInBounds_toArray, List.set_cons_zero, List.set_cons_succ, i64_w, i32_w]
                                            rfl
                                          refine one_ (i := 10) (N := some 80) #[true, true, true, true, true, true, true, true, true, true, true, false] rfl rfl (one_of HT_.out (by kernel_rfl)) (by decide) (fun K hK => ?_)
                                          refine Kd.R_append_step k42 (w0 := w) w.heap.size (by rfl) (.tmp 70) (.tmp 79) 43 42 (.agg #[(.int .i64 0), (.int .i64 0)]) 16 rfl Try.underlying43 info42 rfl (by decide) (by omega) u9 x9_3 (⟨t139, (rd_T42 x6_2 x45_3).f1⟩ : S42) [.int .i64 t139, .int .i64 ((rd_T42 x6_2 x45_3).f1)] (fun k_ => some k_ ≠ (.slice (some ad129) x6_2.length co27 : Value).ownBlock ∧ k_ ≠ gb130) (fun _ => False) rfl rfl ?aP (fun _ hk => hk.elim) ?aF ?aO ?aB ?aS ?aL ?_
                                          (case aP => exact k42_mkM _ _ _ (⟨t139, (rd_T42 x6_2 x45_3).f1⟩ : S42))
                                          (case aB => exact (by repeat (first | (with_reducible first | exact HB.out | apply below_alloc | apply pw_below_drewN | apply below_drew1 | refine below_set ?_ GE120.out | refine below_set ?_ GE123.out | refine below_set ?_ GE128.out | refine below_set ?_ GE130.out) | exact HB.out)))
                                          (case aF => exact (fun k_ hk => ⟨Kd.fresh' (Kd.R_lt (by (with_reducible repeat (first | apply Kd.R_alloc | apply Kd.R_drewN | apply Kd.R_drew)); exact HO_43.out)) k_ hk, Kd.freshB (g := gb130) (o := .cells #[.int .i64 ((rd_T42 x6_2 x45_3).f0), .int .i64 ((rd_T42 x6_2 x45_3).f1)] 42 (0, 0)) (by (with_reducible repeat (first | refine blk_drewN ?_ _ | refine blk_drew ?_ | refine blk_alloc ?_ _)); exact BK130.out) k_ hk⟩))
                                          (case aO => exact (by (with_reducible repeat (first | apply Kd.R_alloc | apply Kd.R_drewN | apply Kd.R_drew)); exact HO_9.out))
                                          (case aS => exact (below_size (by repeat (first | (with_reducible first | exact HB.out | apply below_alloc | apply pw_below_drewN | apply below_drew1 | refine below_set ?_ GE120.out | refine below_set ?_ GE123.out | refine below_set ?_ GE128.out | refine below_set ?_ GE130.out) | exact HB.out))))
                                          (case aL => have := LMc67.out; omega)
                                          intro v141 w78 ho hb hg hat
                                          rw [← Ny140.out] at ho
                                          have n0_ := Aside0.mk (Kd.R_over' (by (with_reducible repeat (first | apply Kd.R_alloc | apply Kd.R_drewN | apply Kd.R_drew)); exact HO_3.out) (Kd.R_typed (by (with_reducible repeat (first | apply Kd.R_alloc | apply Kd.R_drewN | apply Kd.R_drew)); exact HO_9.out)) (by decide) hg)
                                          have n1_ := Aside0.mk (Kd.R_after (ok := (fun k_ => k_ ≠ gb130)) (by (with_reducible repeat (first | apply Kd.R_alloc | apply Kd.R_drewN | apply Kd.R_drew)); exact Kd.R_mono HO_43.out (fun _ hk => ⟨hk.2, hk.1⟩)) hg hat)
                                          have n2_ := Aside0.mk (blk_grown (g := gb120) (o := .cells #[.int .i64 a0_0, .slice (some ad122) l0_1.length c0_1] 30 (0, 0)) (by (with_reducible repeat (first | refine blk_drewN ?_ _ | refine blk_drew ?_ | refine blk_alloc ?_ _)); exact BK120.out) hg (Kd.R_ne HO_9.out BK120.out (by decide)))
                                          have n3_ := Aside0.mk (blk_grown (g := gb123) (o := .cells #[.int .i64 ((rd_T40 l0_1 x21_1).f0), .int .i64 ((rd_T40 l0_1 x21_1).f1), .string ((rd_T40 l0_1 x21_1).f2), .string ((rd_T40 l0_1 x21_1).f3), .int .i64 ((rd_T40 l0_1 x21_1).f4), .int .i64 ((rd_T40 l0_1 x21_1).f5), .bool ((rd_T40 l0_1 x21_1).f6)] 40 (0, 0)) (by (with_reducible repeat (first | refine blk_drewN ?_ _ | refine blk_drew ?_ | refine blk_alloc ?_ _)); exact BK123.out) hg (Kd.R_ne HO_9.out BK123.out (by decide)))
                                          have n4_ := Aside0.mk (blk_grown (g := gb128) (o := .cells #[.int .i64 ((rd_T40 l0_1 x34_2).f0), .int .i64 ((rd_T40 l0_1 x34_2).f1), .string ((rd_T40 l0_1 x34_2).f2), .string ((rd_T40 l0_1 x34_2).f3), .int .i64 ((rd_T40 l0_1 x34_2).f4), .int .i64 ((rd_T40 l0_1 x34_2).f5), .bool ((rd_T40 l0_1 x34_2).f6)] 40 (0, 0)) (by (with_reducible repeat (first | refine blk_drewN ?_ _ | refine blk_drew ?_ | refine blk_alloc ?_ _)); exact BK128.out) hg (Kd.R_ne HO_9.out BK128.out (by decide)))
                                          have n5_ := Aside0.mk (blk_grown (g := gb130) (o := .cells #[.int .i64 ((rd_T42 x6_2 x45_3).f0), .int .i64 ((rd_T42 x6_2 x45_3).f1)] 42 (0, 0)) (by (with_reducible repeat (first | refine blk_drewN ?_ _ | refine blk_drew ?_ | refine blk_alloc ?_ _)); exact BK130.out) hg (Kd.R_away HO_9.out (fun _ hk => hk.2)))
                                          have n6_ := Aside0.mk (hb)
                                          have n7_ := Aside0.mk (ho)
                                          clear HO_3
                                          clear HO_43
                                          clear BK120
                                          clear BK123
                                          clear BK128
                                          clear BK130
                                          clear HB
                                          clear HO_9
                                          have HO_3 := n0_
                                          have HO_43 := n1_
                                          have BK120 := n2_
                                          have BK123 := n3_
                                          have BK128 := n4_
                                          have BK130 := n5_
                                          have HB := n6_
                                          have HO142 := n7_
                                          clear n0_ n1_ n2_ n3_ n4_ n5_ n6_ n7_
                                          clear ho hb hg hat
                                          refine hK.out _ _ ⟨(blk_cell BK130.out 0).trans rfl, (blk_cell BK130.out 1).trans rfl, (blk_cell BK128.out 0).trans rfl, (blk_cell BK128.out 1).trans rfl, (blk_cell BK128.out 2).trans rfl, (blk_cell BK128.out 3).trans rfl, (blk_cell BK128.out 4).trans rfl, (blk_cell BK128.out 5).trans rfl, (blk_cell BK128.out 6).trans rfl⟩ (fun hHeld => ?_)
                                          clear hK K
                                          refine norm_ (a' := ?_) ?_ ?_
                                          rotate_left
                                          · show Act.put _ (some 80) _ = _
                                            simp only [Act.put, List.setIfInBounds_toArray, List.set_cons_zero, List.set_cons_succ, i64_w, i32_w]
                                            rfl
                                          refine pure_ (i := 11) (N := some 9) (v := ?_) (a' := ?_) #[true, true, true, true, true, true, true, true, true, true, true, true] rfl rfl (any_of HT_.out (by kernel_rfl)) (fun _ _ _ h => h) (Or.inl ⟨by rfl, ?_⟩) ?_ ?_
                                          rotate_left
                                          · intro w'
                                            go_simp
                                            with_reducible rfl
                                          rotate_left
                                          · simp only [Act.put, List.setIfInBounds_toArray, List.set_cons_zero, List.set_cons_succ, i64_w, i32_w]
                                            rfl
                                          refine done_ (done_of HT_.out (by kernel_rfl)) ?_
                                          try go_wp2
                                          go_roundg k3
                                          case measure => have := HK1.out; have := HK2.out; have := HK3.out; omega
                                          case rel => exact ⟨(y140), (wrap64 (x45_3 + 1)), (by first | rfl | (simp; done) | (simp [*]; done)), H', ⟨by have := HK1.out; have := HK2.out; have := HK3.out; omega⟩, ⟨by (with_reducible repeat (first | apply Kd.R_alloc | apply Kd.R_drewN | apply Kd.R_drew)); exact HO_3.out⟩, ⟨by (with_reducible repeat (first | apply Kd.R_alloc | apply Kd.R_drewN | apply Kd.R_drew)); exact Kd.R_mono HO142.out (fun _ hk => hk.1)⟩, ⟨by (with_reducible repeat (first | apply Kd.R_alloc | apply Kd.R_drewN | apply Kd.R_drew)); exact Kd.R_mono HO_43.out (fun _ hk => hk.2)⟩, ⟨by (with_reducible repeat (first | refine blk_drewN ?_ _ | refine blk_drew ?_ | refine blk_alloc ?_ _)); exact BK120.out⟩, ⟨by (with_reducible repeat (first | refine blk_drewN ?_ _ | refine blk_drew ?_ | refine blk_alloc ?_ _)); exact BK123.out⟩, ⟨by (with_reducible repeat (first | refine blk_drewN ?_ _ | refine blk_drew ?_ | refine blk_alloc ?_ _)); exact BK128.out⟩, ⟨by repeat (first | (with_reducible first | exact HB.out | apply below_alloc | apply pw_below_drewN | apply below_drew1 | refine below_set ?_ GE120.out | refine below_set ?_ GE123.out | refine below_set ?_ GE128.out | refine below_set ?_ GE130.out) | exact HB.out)⟩⟩
                                        · rw [if_neg c67] at H
                                          exact absurd H (by simp)
                                      · rw [if_neg c65] at H
                                        have c65b0 : decide (((rd_T40 l0_1 x34_2).f5) < ((rd_T42 x6_2 x45_3).f1)) = false := decide_eq_false c65
                                        clear c65
                                        have H' := Aside0.mk H
                                        clear H
                                        have p129 : 0 ≤ (x45_3 : Int) := of_decide_eq_true (by first | (with_reducible assumption) | assumption)
                                        have q129 : x45_3 < (x6_2.length : Int) := of_decide_eq_true (by first | (with_reducible assumption) | assumption)
                                        obtain ⟨ad129, e129, hx129_0, hx129_1⟩ := at_T42 (Kd.R_reads' HO_43.out).2.2 x45_3 p129 q129
                                        cases e129
                                        replace p129 := eq_true p129
                                        replace q129 := eq_true q129
                                        go_wp2_with (first | ((with_reducible refine gate_dst (N := 11) rfl ?_); refine box_event ?hg (N := 11) ?hd (cs := #[.int .i64 0, .int .i64 0]) (t := 42) ?hr ?_; (case hd => rfl); (case hg => rfl); (case hr => first | (go_simp; done) | (go_simp; rfl)); intro gb130 hg w79 hbox hb; have n0_ := Aside0.mk (Kd.R_below (by (with_reducible repeat (first | apply Kd.R_alloc | apply Kd.R_drewN | apply Kd.R_drew)); exact HO_3.out) hb); have n1_ := Aside0.mk (Kd.R_below (Kd.R_elderB (by (with_reducible repeat (first | apply Kd.R_alloc | apply Kd.R_drewN | apply Kd.R_drew)); exact HO_9.out) gb130 (Nat.le_of_eq hg.symm)) hb); have n2_ := Aside0.mk (Kd.R_below (Kd.R_elderB (by (with_reducible repeat (first | apply Kd.R_alloc | apply Kd.R_drewN | apply Kd.R_drew)); exact HO_43.out) gb130 (Nat.le_of_eq hg.symm)) hb); have n3_ := Aside0.mk (blk_below (g := gb120) (o := .cells #[.int .i64 a0_0, .slice (some ad122) l0_1.length c0_1] 30 (0, 0)) (by (with_reducible repeat (first | refine blk_drewN ?_ _ | refine blk_drew ?_ | refine blk_alloc ?_ _)); exact BK120.out) hb); have n4_ := Aside0.mk (blk_below (g := gb123) (o := .cells #[.int .i64 ((rd_T40 l0_1 x21_1).f0), .int .i64 ((rd_T40 l0_1 x21_1).f1), .string ((rd_T40 l0_1 x21_1).f2), .string ((rd_T40 l0_1 x21_1).f3), .int .i64 ((rd_T40 l0_1 x21_1).f4), .int .i64 ((rd_T40 l0_1 x21_1).f5), .bool ((rd_T40 l0_1 x21_1).f6)] 40 (0, 0)) (by (with_reducible repeat (first | refine blk_drewN ?_ _ | refine blk_drew ?_ | refine blk_alloc ?_ _)); exact BK123.out) hb); have n5_ := Aside0.mk (blk_below (g := gb128) (o := .cells #[.int .i64 ((rd_T40 l0_1 x34_2).f0), .int .i64 ((rd_T40 l0_1 x34_2).f1), .string ((rd_T40 l0_1 x34_2).f2), .string ((rd_T40 l0_1 x34_2).f3), .int .i64 ((rd_T40 l0_1 x34_2).f4), .int .i64 ((rd_T40 l0_1 x34_2).f5), .bool ((rd_T40 l0_1 x34_2).f6)] 40 (0, 0)) (by (with_reducible repeat (first | refine blk_drewN ?_ _ | refine blk_drew ?_ | refine blk_alloc ?_ _)); exact BK128.out) hb); have n6_ := Aside0.mk (below_step (by repeat (first | (with_reducible first | exact HB.out | apply below_alloc | apply pw_below_drewN | apply below_drew1 | refine below_set ?_ GE120.out | refine below_set ?_ GE123.out | refine below_set ?_ GE128.out) | exact HB.out)) hb); have n7_ := Aside0.mk (hbox); have n8_ := Aside0.mk ((by rw [hg]; exact (below_size (by repeat (first | (with_reducible first | exact HB.out | apply below_alloc | apply pw_below_drewN | apply below_drew1 | refine below_set ?_ GE120.out | refine below_set ?_ GE123.out | refine below_set ?_ GE128.out) | exact HB.out))) : w.heap.size ≤ gb130)); have n9_ := Aside0.mk ((by rw [hg]; exact (below_size (by repeat (first | (with_reducible first | exact HB.out | apply below_alloc | apply pw_below_drewN | apply below_drew1 | refine below_set ?_ GE120.out | refine below_set ?_ GE123.out | refine below_set ?_ GE128.out) | exact HB.out))) : w.heap.size ≤ gb130)); have n10_ := Aside0.mk ((by rw [hg]; exact Nat.ne_of_lt (blk_lt (g := gb120) (o := .cells #[.int .i64 a0_0, .slice (some ad122) l0_1.length c0_1] 30 (0, 0)) (by (with_reducible repeat (first | refine blk_drewN ?_ _ | refine blk_drew ?_ | refine blk_alloc ?_ _)); exact BK120.out)) : gb120 ≠ gb130)); have n11_ := Aside0.mk ((by rw [hg]; exact Nat.ne_of_gt (blk_lt (g := gb120) (o := .cells #[.int .i64 a0_0, .slice (some ad122) l0_1.length c0_1] 30 (0, 0)) (by (with_reducible repeat (first | refine blk_drewN ?_ _ | refine blk_drew ?_ | refine blk_alloc ?_ _)); exact BK120.out)) : gb130 ≠ gb120)); have n12_ := Aside0.mk ((by rw [hg]; exact Nat.ne_of_lt (blk_lt (g := gb123) (o := .cells #[.int .i64 ((rd_T40 l0_1 x21_1).f0), .int .i64 ((rd_T40 l0_1 x21_1).f1), .string ((rd_T40 l0_1 x21_1).f2), .string ((rd_T40 l0_1 x21_1).f3), .int .i64 ((rd_T40 l0_1 x21_1).f4), .int .i64 ((rd_T40 l0_1 x21_1).f5), .bool ((rd_T40 l0_1 x21_1).f6)] 40 (0, 0)) (by (with_reducible repeat (first | refine blk_drewN ?_ _ | refine blk_drew ?_ | refine blk_alloc ?_ _)); exact BK123.out)) : gb123 ≠ gb130)); have n13_ := Aside0.mk ((by rw [hg]; exact Nat.ne_of_gt (blk_lt (g := gb123) (o := .cells #[.int .i64 ((rd_T40 l0_1 x21_1).f0), .int .i64 ((rd_T40 l0_1 x21_1).f1), .string ((rd_T40 l0_1 x21_1).f2), .string ((rd_T40 l0_1 x21_1).f3), .int .i64 ((rd_T40 l0_1 x21_1).f4), .int .i64 ((rd_T40 l0_1 x21_1).f5), .bool ((rd_T40 l0_1 x21_1).f6)] 40 (0, 0)) (by (with_reducible repeat (first | refine blk_drewN ?_ _ | refine blk_drew ?_ | refine blk_alloc ?_ _)); exact BK123.out)) : gb130 ≠ gb123)); have n14_ := Aside0.mk ((by rw [hg]; exact Nat.ne_of_lt (blk_lt (g := gb128) (o := .cells #[.int .i64 ((rd_T40 l0_1 x34_2).f0), .int .i64 ((rd_T40 l0_1 x34_2).f1), .string ((rd_T40 l0_1 x34_2).f2), .string ((rd_T40 l0_1 x34_2).f3), .int .i64 ((rd_T40 l0_1 x34_2).f4), .int .i64 ((rd_T40 l0_1 x34_2).f5), .bool ((rd_T40 l0_1 x34_2).f6)] 40 (0, 0)) (by (with_reducible repeat (first | refine blk_drewN ?_ _ | refine blk_drew ?_ | refine blk_alloc ?_ _)); exact BK128.out)) : gb128 ≠ gb130)); have n15_ := Aside0.mk ((by rw [hg]; exact Nat.ne_of_gt (blk_lt (g := gb128) (o := .cells #[.int .i64 ((rd_T40 l0_1 x34_2).f0), .int .i64 ((rd_T40 l0_1 x34_2).f1), .string ((rd_T40 l0_1 x34_2).f2), .string ((rd_T40 l0_1 x34_2).f3), .int .i64 ((rd_T40 l0_1 x34_2).f4), .int .i64 ((rd_T40 l0_1 x34_2).f5), .bool ((rd_T40 l0_1 x34_2).f6)] 40 (0, 0)) (by (with_reducible repeat (first | refine blk_drewN ?_ _ | refine blk_drew ?_ | refine blk_alloc ?_ _)); exact BK128.out)) : gb130 ≠ gb128)); clear HO_3; clear HO_9; clear HO_43; clear BK120; clear BK123; clear BK128; clear HB; have HO_3 := n0_; have HO_9 := n1_; have HO_43 := n2_; have BK120 := n3_; have BK123 := n4_; have BK128 := n5_; have HB := n6_; have BK130 := n7_; have GW130 := n8_; have GE130 := n9_; have NB120_130 := n10_; have NB130_120 := n11_; have NB123_130 := n12_; have NB130_123 := n13_; have NB128_130 := n14_; have NB130_128 := n15_; clear n0_ n1_ n2_ n3_ n4_ n5_ n6_ n7_ n8_ n9_ n10_ n11_ n12_ n13_ n14_ n15_; clear hb hbox hg; have hnb80 := NB130_120.out; have hnc80 := NB120_130.out; have hnb81 := NB130_123.out; have hnc81 := NB123_130.out; have hnb82 := NB130_128.out; have hnc82 := NB128_130.out; have hcz83_0 : w79.cell? ⟨gb130, 0, none⟩ = some (.int .i64 0) := (blk_cell BK130.out 0).trans rfl; have hcz83_1 : w79.cell? ⟨gb130, 1, none⟩ = some (.int .i64 0) := (blk_cell BK130.out 1).trans rfl; have hfz83_0 := blk_frozen BK130.out 0; have hfz83_1 := blk_frozen BK130.out 1; have hnb84 := NB128_120.out; have hnc84 := NB120_128.out; have hnb85 := NB128_123.out; have hnc85 := NB123_128.out; have hcz86_0 : w79.cell? ⟨gb128, 0, none⟩ = some (.int .i64 ((rd_T40 l0_1 x34_2).f0)) := (blk_cell BK128.out 0).trans rfl; have hcz86_1 : w79.cell? ⟨gb128, 1, none⟩ = some (.int .i64 ((rd_T40 l0_1 x34_2).f1)) := (blk_cell BK128.out 1).trans rfl; have hcz86_2 : w79.cell? ⟨gb128, 2, none⟩ = some (.string ((rd_T40 l0_1 x34_2).f2)) := (blk_cell BK128.out 2).trans rfl; have hcz86_3 : w79.cell? ⟨gb128, 3, none⟩ = some (.string ((rd_T40 l0_1 x34_2).f3)) := (blk_cell BK128.out 3).trans rfl; have hcz86_4 : w79.cell? ⟨gb128, 4, none⟩ = some (.int .i64 ((rd_T40 l0_1 x34_2).f4)) := (blk_cell BK128.out 4).trans rfl; have hcz86_5 : w79.cell? ⟨gb128, 5, none⟩ = some (.int .i64 ((rd_T40 l0_1 x34_2).f5)) := (blk_cell BK128.out 5).trans rfl; have hcz86_6 : w79.cell? ⟨gb128, 6, none⟩ = some (.bool ((rd_T40 l0_1 x34_2).f6)) := (blk_cell BK128.out 6).trans rfl; have hfz86_0 := blk_frozen BK128.out 0; have hfz86_1 := blk_frozen BK128.out 1; have hfz86_2 := blk_frozen BK128.out 2; have hfz86_3 := blk_frozen BK128.out 3; have hfz86_4 := blk_frozen BK128.out 4; have hfz86_5 := blk_frozen BK128.out 5; have hfz86_6 := blk_frozen BK128.out 6))
                                        go_roundg k3
                                        case measure => have := HK1.out; have := HK2.out; have := HK3.out; omega
                                        case rel => exact ⟨(x9_3), (wrap64 (x45_3 + 1)), (by first | rfl | (simp; done) | (simp [*]; done)), H', ⟨by have := HK1.out; have := HK2.out; have := HK3.out; omega⟩, ⟨by (with_reducible repeat (first | apply Kd.R_alloc | apply Kd.R_drewN | apply Kd.R_drew)); exact Kd.R_mono (Kd.R_far (p := ⟨gb130, 1, none⟩) (Kd.R_far (p := ⟨gb130, 0, none⟩) (Kd.R_types HO_3.out BK130.out (by decide)) (fun _ hk => hk.2) (.int .i64 ((rd_T42 x6_2 x45_3).f0))) (fun _ hk => hk.2) (.int .i64 ((rd_T42 x6_2 x45_3).f1))) (fun _ hk => trivial)⟩, ⟨by (with_reducible repeat (first | apply Kd.R_alloc | apply Kd.R_drewN | apply Kd.R_drew)); exact Kd.R_mono (Kd.R_far (p := ⟨gb130, 1, none⟩) (Kd.R_far (p := ⟨gb130, 0, none⟩) (Kd.R_mono HO_9.out (fun k_ hk => (⟨hk, hk.2⟩ : _ ∧ k_ ≠ gb130))) (fun _ hk => hk.2) (.int .i64 ((rd_T42 x6_2 x45_3).f0))) (fun _ hk => hk.2) (.int .i64 ((rd_T42 x6_2 x45_3).f1))) (fun _ hk => hk.1.1)⟩, ⟨by (with_reducible repeat (first | apply Kd.R_alloc | apply Kd.R_drewN | apply Kd.R_drew)); exact Kd.R_mono (Kd.R_far (p := ⟨gb130, 1, none⟩) (Kd.R_far (p := ⟨gb130, 0, none⟩) (Kd.R_mono HO_43.out (fun k_ hk => (⟨hk, hk.2⟩ : _ ∧ k_ ≠ gb130))) (fun _ hk => hk.2) (.int .i64 ((rd_T42 x6_2 x45_3).f0))) (fun _ hk => hk.2) (.int .i64 ((rd_T42 x6_2 x45_3).f1))) (fun _ hk => hk.1.1)⟩, ⟨by (with_reducible repeat (first | refine blk_drewN ?_ _ | refine blk_drew ?_ | refine blk_alloc ?_ _)); refine blk_far ?_ NB120_130.out _; (with_reducible repeat (first | refine blk_drewN ?_ _ | refine blk_drew ?_ | refine blk_alloc ?_ _)); refine blk_far ?_ NB120_130.out _; (with_reducible repeat (first | refine blk_drewN ?_ _ | refine blk_drew ?_ | refine blk_alloc ?_ _)); exact BK120.out⟩, ⟨by (with_reducible repeat (first | refine blk_drewN ?_ _ | refine blk_drew ?_ | refine blk_alloc ?_ _)); refine blk_far ?_ NB123_130.out _; (with_reducible repeat (first | refine blk_drewN ?_ _ | refine blk_drew ?_ | refine blk_alloc ?_ _)); refine blk_far ?_ NB123_130.out _; (with_reducible repeat (first | refine blk_drewN ?_ _ | refine blk_drew ?_ | refine blk_alloc ?_ _)); exact BK123.out⟩, ⟨by (with_reducible repeat (first | refine blk_drewN ?_ _ | refine blk_drew ?_ | refine blk_alloc ?_ _)); refine blk_far ?_ NB128_130.out _; (with_reducible repeat (first | refine blk_drewN ?_ _ | refine blk_drew ?_ | refine blk_alloc ?_ _)); refine blk_far ?_ NB128_130.out _; (with_reducible repeat (first | refine blk_drewN ?_ _ | refine blk_drew ?_ | refine blk_alloc ?_ _)); exact BK128.out⟩, ⟨by repeat (first | (with_reducible first | exact HB.out | apply below_alloc | apply pw_below_drewN | apply below_drew1 | refine below_set ?_ GE120.out | refine below_set ?_ GE123.out | refine below_set ?_ GE128.out | refine below_set ?_ GE130.out) | exact HB.out)⟩⟩
                                  · rw [if_neg c30] at H
                                    exact absurd H (by simp)
                                · rw [if_neg c29] at H
                                  exact absurd H (by simp)
                              · rw [if_neg c28] at H
                                have c28b0 : decide (x45_3 < (x6_2.length : Int)) = false := decide_eq_false c28
                                clear c28
                                have H' := Aside0.mk H
                                clear H
                                go_wp2
                                go_roundg k3
                                case measure => have := HK1.out; have := HK2.out; have := HK3.out; omega
                                case rel => exact ⟨(x9_3), (wrap64 (x34_2 + 1)), (by first | rfl | (simp; done) | (simp [*]; done)), H', ⟨by have := HK1.out; have := HK2.out; have := HK3.out; omega⟩, ⟨by (with_reducible repeat (first | apply Kd.R_alloc | apply Kd.R_drewN | apply Kd.R_drew)); exact HO_3.out⟩, ⟨by (with_reducible repeat (first | apply Kd.R_alloc | apply Kd.R_drewN | apply Kd.R_drew)); exact Kd.R_mono HO_9.out (fun _ hk => trivial)⟩, ⟨by (with_reducible repeat (first | refine blk_drewN ?_ _ | refine blk_drew ?_ | refine blk_alloc ?_ _)); exact BK120.out⟩, ⟨by (with_reducible repeat (first | refine blk_drewN ?_ _ | refine blk_drew ?_ | refine blk_alloc ?_ _)); exact BK123.out⟩, ⟨by repeat (first | (with_reducible first | exact HB.out | apply below_alloc | apply pw_below_drewN | apply below_drew1 | refine below_set ?_ GE120.out | refine below_set ?_ GE123.out | refine below_set ?_ GE128.out) | exact HB.out)⟩⟩
                        · rw [if_neg c20] at H
                          have c20b0 : (((rd_T40 l0_1 x34_2).f1) == ((rd_T40 l0_1 x21_1).f0)) = false := beq_eq_false_iff_ne.mpr c20
                          have c20b1 : (((rd_T40 l0_1 x34_2).f1) != ((rd_T40 l0_1 x21_1).f0)) = true := bne_iff_ne.mpr c20
                          have H' := Aside0.mk H
                          clear H
                          have p127 : 0 ≤ (x34_2 : Int) := of_decide_eq_true (by first | (with_reducible assumption) | assumption)
                          have q127 : x34_2 < (l0_1.length : Int) := of_decide_eq_true (by first | (with_reducible assumption) | assumption)
                          obtain ⟨ad127, e127, hx127_0, hx127_1, hx127_2, hx127_3, hx127_4, hx127_5, hx127_6⟩ := at_T40 HR0_1.out x34_2 p127 q127
                          obtain rfl : ad122 = ad127 := (by injection e127)
                          replace hx127_0 := (HB.out.cell (World.block_lt_of_cell? w _ hx127_0)).trans hx127_0
                          replace hx127_1 := (HB.out.cell (World.block_lt_of_cell? w _ hx127_1)).trans hx127_1
                          replace hx127_2 := (HB.out.cell (World.block_lt_of_cell? w _ hx127_2)).trans hx127_2
                          replace hx127_3 := (HB.out.cell (World.block_lt_of_cell? w _ hx127_3)).trans hx127_3
                          replace hx127_4 := (HB.out.cell (World.block_lt_of_cell? w _ hx127_4)).trans hx127_4
                          replace hx127_5 := (HB.out.cell (World.block_lt_of_cell? w _ hx127_5)).trans hx127_5
                          replace hx127_6 := (HB.out.cell (World.block_lt_of_cell? w _ hx127_6)).trans hx127_6
                          replace p127 := eq_true p127
                          replace q127 := eq_true q127
                          go_wp2_with (first | ((with_reducible refine gate_dst (N := 8) rfl ?_); refine box_event ?hg (N := 8) ?hd (cs := #[.int .i64 0, .int .i64 0, .string (⟨#[]⟩ : ByteArray), .string (⟨#[]⟩ : ByteArray), .int .i64 0, .int .i64 0, .bool false]) (t := 40) ?hr ?_; (case hd => rfl); (case hg => rfl); (case hr => first | (go_simp; done) | (go_simp; rfl)); intro gb128 hg w87 hbox hb; have n0_ := Aside0.mk (Kd.R_below (by (with_reducible repeat (first | apply Kd.R_alloc | apply Kd.R_drewN | apply Kd.R_drew)); exact HO_3.out) hb); have n1_ := Aside0.mk (Kd.R_below (by (with_reducible repeat (first | apply Kd.R_alloc | apply Kd.R_drewN | apply Kd.R_drew)); exact HO_6.out) hb); have n2_ := Aside0.mk (blk_below (g := gb120) (o := .cells #[.int .i64 a0_0, .slice (some ad122) l0_1.length c0_1] 30 (0, 0)) (by (with_reducible repeat (first | refine blk_drewN ?_ _ | refine blk_drew ?_ | refine blk_alloc ?_ _)); exact BK120.out) hb); have n3_ := Aside0.mk (blk_below (g := gb123) (o := .cells #[.int .i64 ((rd_T40 l0_1 x21_1).f0), .int .i64 ((rd_T40 l0_1 x21_1).f1), .string ((rd_T40 l0_1 x21_1).f2), .string ((rd_T40 l0_1 x21_1).f3), .int .i64 ((rd_T40 l0_1 x21_1).f4), .int .i64 ((rd_T40 l0_1 x21_1).f5), .bool ((rd_T40 l0_1 x21_1).f6)] 40 (0, 0)) (by (with_reducible repeat (first | refine blk_drewN ?_ _ | refine blk_drew ?_ | refine blk_alloc ?_ _)); exact BK123.out) hb); have n4_ := Aside0.mk (below_step (by repeat (first | (with_reducible first | exact HB.out | apply below_alloc | apply pw_below_drewN | apply below_drew1 | refine below_set ?_ GE120.out | refine below_set ?_ GE123.out) | exact HB.out)) hb); have n5_ := Aside0.mk (hbox); have n6_ := Aside0.mk ((by rw [hg]; exact (below_size (by repeat (first | (with_reducible first | exact HB.out | apply below_alloc | apply pw_below_drewN | apply below_drew1 | refine below_set ?_ GE120.out | refine below_set ?_ GE123.out) | exact HB.out))) : w.heap.size ≤ gb128)); have n7_ := Aside0.mk ((by rw [hg]; exact (below_size (by repeat (first | (with_reducible first | exact HB.out | apply below_alloc | apply pw_below_drewN | apply below_drew1 | refine below_set ?_ GE120.out | refine below_set ?_ GE123.out) | exact HB.out))) : w.heap.size ≤ gb128)); have n8_ := Aside0.mk ((by rw [hg]; exact Nat.ne_of_lt (blk_lt (g := gb120) (o := .cells #[.int .i64 a0_0, .slice (some ad122) l0_1.length c0_1] 30 (0, 0)) (by (with_reducible repeat (first | refine blk_drewN ?_ _ | refine blk_drew ?_ | refine blk_alloc ?_ _)); exact BK120.out)) : gb120 ≠ gb128)); have n9_ := Aside0.mk ((by rw [hg]; exact Nat.ne_of_gt (blk_lt (g := gb120) (o := .cells #[.int .i64 a0_0, .slice (some ad122) l0_1.length c0_1] 30 (0, 0)) (by (with_reducible repeat (first | refine blk_drewN ?_ _ | refine blk_drew ?_ | refine blk_alloc ?_ _)); exact BK120.out)) : gb128 ≠ gb120)); have n10_ := Aside0.mk ((by rw [hg]; exact Nat.ne_of_lt (blk_lt (g := gb123) (o := .cells #[.int .i64 ((rd_T40 l0_1 x21_1).f0), .int .i64 ((rd_T40 l0_1 x21_1).f1), .string ((rd_T40 l0_1 x21_1).f2), .string ((rd_T40 l0_1 x21_1).f3), .int .i64 ((rd_T40 l0_1 x21_1).f4), .int .i64 ((rd_T40 l0_1 x21_1).f5), .bool ((rd_T40 l0_1 x21_1).f6)] 40 (0, 0)) (by (with_reducible repeat (first | refine blk_drewN ?_ _ | refine blk_drew ?_ | refine blk_alloc ?_ _)); exact BK123.out)) : gb123 ≠ gb128)); have n11_ := Aside0.mk ((by rw [hg]; exact Nat.ne_of_gt (blk_lt (g := gb123) (o := .cells #[.int .i64 ((rd_T40 l0_1 x21_1).f0), .int .i64 ((rd_T40 l0_1 x21_1).f1), .string ((rd_T40 l0_1 x21_1).f2), .string ((rd_T40 l0_1 x21_1).f3), .int .i64 ((rd_T40 l0_1 x21_1).f4), .int .i64 ((rd_T40 l0_1 x21_1).f5), .bool ((rd_T40 l0_1 x21_1).f6)] 40 (0, 0)) (by (with_reducible repeat (first | refine blk_drewN ?_ _ | refine blk_drew ?_ | refine blk_alloc ?_ _)); exact BK123.out)) : gb128 ≠ gb123)); clear HO_3; clear HO_6; clear BK120; clear BK123; clear HB; have HO_3 := n0_; have HO_6 := n1_; have BK120 := n2_; have BK123 := n3_; have HB := n4_; have BK128 := n5_; have GW128 := n6_; have GE128 := n7_; have NB120_128 := n8_; have NB128_120 := n9_; have NB123_128 := n10_; have NB128_123 := n11_; clear n0_ n1_ n2_ n3_ n4_ n5_ n6_ n7_ n8_ n9_ n10_ n11_; clear hb hbox hg; have hnb88 := NB128_120.out; have hnc88 := NB120_128.out; have hnb89 := NB128_123.out; have hnc89 := NB123_128.out; have hcz90_0 : w87.cell? ⟨gb128, 0, none⟩ = some (.int .i64 0) := (blk_cell BK128.out 0).trans rfl; have hcz90_1 : w87.cell? ⟨gb128, 1, none⟩ = some (.int .i64 0) := (blk_cell BK128.out 1).trans rfl; have hcz90_2 : w87.cell? ⟨gb128, 2, none⟩ = some (.string (⟨#[]⟩ : ByteArray)) := (blk_cell BK128.out 2).trans rfl; have hcz90_3 : w87.cell? ⟨gb128, 3, none⟩ = some (.string (⟨#[]⟩ : ByteArray)) := (blk_cell BK128.out 3).trans rfl; have hcz90_4 : w87.cell? ⟨gb128, 4, none⟩ = some (.int .i64 0) := (blk_cell BK128.out 4).trans rfl; have hcz90_5 : w87.cell? ⟨gb128, 5, none⟩ = some (.int .i64 0) := (blk_cell BK128.out 5).trans rfl; have hcz90_6 : w87.cell? ⟨gb128, 6, none⟩ = some (.bool false) := (blk_cell BK128.out 6).trans rfl; have hfz90_0 := blk_frozen BK128.out 0; have hfz90_1 := blk_frozen BK128.out 1; have hfz90_2 := blk_frozen BK128.out 2; have hfz90_3 := blk_frozen BK128.out 3; have hfz90_4 := blk_frozen BK128.out 4; have hfz90_5 := blk_frozen BK128.out 5; have hfz90_6 := blk_frozen BK128.out 6; have hnb91 := NB123_120.out; have hnc91 := NB120_123.out; have hcz92_0 : w87.cell? ⟨gb123, 0, none⟩ = some (.int .i64 ((rd_T40 l0_1 x21_1).f0)) := (blk_cell BK123.out 0).trans rfl; have hcz92_1 : w87.cell? ⟨gb123, 1, none⟩ = some (.int .i64 ((rd_T40 l0_1 x21_1).f1)) := (blk_cell BK123.out 1).trans rfl; have hcz92_2 : w87.cell? ⟨gb123, 2, none⟩ = some (.string ((rd_T40 l0_1 x21_1).f2)) := (blk_cell BK123.out 2).trans rfl; have hcz92_3 : w87.cell? ⟨gb123, 3, none⟩ = some (.string ((rd_T40 l0_1 x21_1).f3)) := (blk_cell BK123.out 3).trans rfl; have hcz92_4 : w87.cell? ⟨gb123, 4, none⟩ = some (.int .i64 ((rd_T40 l0_1 x21_1).f4)) := (blk_cell BK123.out 4).trans rfl; have hcz92_5 : w87.cell? ⟨gb123, 5, none⟩ = some (.int .i64 ((rd_T40 l0_1 x21_1).f5)) := (blk_cell BK123.out 5).trans rfl; have hcz92_6 : w87.cell? ⟨gb123, 6, none⟩ = some (.bool ((rd_T40 l0_1 x21_1).f6)) := (blk_cell BK123.out 6).trans rfl; have hfz92_0 := blk_frozen BK123.out 0; have hfz92_1 := blk_frozen BK123.out 1; have hfz92_2 := blk_frozen BK123.out 2; have hfz92_3 := blk_frozen BK123.out 3; have hfz92_4 := blk_frozen BK123.out 4; have hfz92_5 := blk_frozen BK123.out 5; have hfz92_6 := blk_frozen BK123.out 6))
                          go_roundg k2
                          case measure => have := HK1.out; have := HK2.out; omega
                          case rel => exact ⟨(x6_2), (wrap64 (x34_2 + 1)), (by first | rfl | (simp; done) | (simp [*]; done)), H', ⟨by have := HK1.out; have := HK2.out; omega⟩, ⟨by (with_reducible repeat (first | apply Kd.R_alloc | apply Kd.R_drewN | apply Kd.R_drew)); exact Kd.R_mono (Kd.R_far (p := ⟨gb128, 6, none⟩) (Kd.R_far (p := ⟨gb128, 5, none⟩) (Kd.R_far (p := ⟨gb128, 4, none⟩) (Kd.R_far (p := ⟨gb128, 3, none⟩) (Kd.R_far (p := ⟨gb128, 2, none⟩) (Kd.R_far (p := ⟨gb128, 1, none⟩) (Kd.R_far (p := ⟨gb128, 0, none⟩) (Kd.R_types HO_3.out BK128.out (by decide)) (fun _ hk => hk.2) (.int .i64 ((rd_T40 l0_1 x34_2).f0))) (fun _ hk => hk.2) (.int .i64 ((rd_T40 l0_1 x34_2).f1))) (fun _ hk => hk.2) (.string ((rd_T40 l0_1 x34_2).f2))) (fun _ hk => hk.2) (.string ((rd_T40 l0_1 x34_2).f3))) (fun _ hk => hk.2) (.int .i64 ((rd_T40 l0_1 x34_2).f4))) (fun _ hk => hk.2) (.int .i64 ((rd_T40 l0_1 x34_2).f5))) (fun _ hk => hk.2) (.bool ((rd_T40 l0_1 x34_2).f6))) (fun _ hk => trivial)⟩, ⟨by (with_reducible repeat (first | apply Kd.R_alloc | apply Kd.R_drewN | apply Kd.R_drew)); exact Kd.R_mono (Kd.R_far (p := ⟨gb128, 6, none⟩) (Kd.R_far (p := ⟨gb128, 5, none⟩) (Kd.R_far (p := ⟨gb128, 4, none⟩) (Kd.R_far (p := ⟨gb128, 3, none⟩) (Kd.R_far (p := ⟨gb128, 2, none⟩) (Kd.R_far (p := ⟨gb128, 1, none⟩) (Kd.R_far (p := ⟨gb128, 0, none⟩) (Kd.R_types HO_6.out BK128.out (by decide)) (fun _ hk => hk.2) (.int .i64 ((rd_T40 l0_1 x34_2).f0))) (fun _ hk => hk.2) (.int .i64 ((rd_T40 l0_1 x34_2).f1))) (fun _ hk => hk.2) (.string ((rd_T40 l0_1 x34_2).f2))) (fun _ hk => hk.2) (.string ((rd_T40 l0_1 x34_2).f3))) (fun _ hk => hk.2) (.int .i64 ((rd_T40 l0_1 x34_2).f4))) (fun _ hk => hk.2) (.int .i64 ((rd_T40 l0_1 x34_2).f5))) (fun _ hk => hk.2) (.bool ((rd_T40 l0_1 x34_2).f6))) (fun _ hk => trivial)⟩, ⟨by (with_reducible repeat (first | refine blk_drewN ?_ _ | refine blk_drew ?_ | refine blk_alloc ?_ _)); refine blk_far ?_ NB120_128.out _; (with_reducible repeat (first | refine blk_drewN ?_ _ | refine blk_drew ?_ | refine blk_alloc ?_ _)); refine blk_far ?_ NB120_128.out _; (with_reducible repeat (first | refine blk_drewN ?_ _ | refine blk_drew ?_ | refine blk_alloc ?_ _)); refine blk_far ?_ NB120_128.out _; (with_reducible repeat (first | refine blk_drewN ?_ _ | refine blk_drew ?_ | refine blk_alloc ?_ _)); refine blk_far ?_ NB120_128.out _; (with_reducible repeat (first | refine blk_drewN ?_ _ | refine blk_drew ?_ | refine blk_alloc ?_ _)); refine blk_far ?_ NB120_128.out _; (with_reducible repeat (first | refine blk_drewN ?_ _ | refine blk_drew ?_ | refine blk_alloc ?_ _)); refine blk_far ?_ NB120_128.out _; (with_reducible repeat (first | refine blk_drewN ?_ _ | refine blk_drew ?_ | refine blk_alloc ?_ _)); refine blk_far ?_ NB120_128.out _; (with_reducible repeat (first | refine blk_drewN ?_ _ | refine blk_drew ?_ | refine blk_alloc ?_ _)); exact BK120.out⟩, ⟨by (with_reducible repeat (first | refine blk_drewN ?_ _ | refine blk_drew ?_ | refine blk_alloc ?_ _)); refine blk_far ?_ NB123_128.out _; (with_reducible repeat (first | refine blk_drewN ?_ _ | refine blk_drew ?_ | refine blk_alloc ?_ _)); refine blk_far ?_ NB123_128.out _; (with_reducible repeat (first | refine blk_drewN ?_ _ | refine blk_drew ?_ | refine blk_alloc ?_ _)); refine blk_far ?_ NB123_128.out _; (with_reducible repeat (first | refine blk_drewN ?_ _ | refine blk_drew ?_ | refine blk_alloc ?_ _)); refine blk_far ?_ NB123_128.out _; (with_reducible repeat (first | refine blk_drewN ?_ _ | refine blk_drew ?_ | refine blk_alloc ?_ _)); refine blk_far ?_ NB123_128.out _; (with_reducible repeat (first | refine blk_drewN ?_ _ | refine blk_drew ?_ | refine blk_alloc ?_ _)); refine blk_far ?_ NB123_128.out _; (with_reducible repeat (first | refine blk_drewN ?_ _ | refine blk_drew ?_ | refine blk_alloc ?_ _)); refine blk_far ?_ NB123_128.out _; (with_reducible repeat (first | refine blk_drewN ?_ _ | refine blk_drew ?_ | refine blk_alloc ?_ _)); exact BK123.out⟩, ⟨by repeat (first | (with_reducible first | exact HB.out | apply below_alloc | apply pw_below_drewN | apply below_drew1 | refine below_set ?_ GE120.out | refine below_set ?_ GE123.out | refine below_set ?_ GE128.out) | exact HB.out)⟩⟩
                      · rw [if_neg c19] at H
                        exact absurd H (by simp)
                    · rw [if_neg c18] at H
                      exact absurd H (by simp)
                  · rw [if_neg c17] at H
                    have c17b0 : decide (x34_2 < (l0_1.length : Int)) = false := decide_eq_false c17
                    clear c17
                    have H' := Aside0.mk H
                    clear H
                    obtain ⟨Ao93, co93, eo93⟩ := Kd.R_slice HO_6.out
                    subst eo93
                    go_wp2
                    go_loopg [12, 86] k2 (fun kq v12 v86 w' => ∃ (x12_3 : Int) (x86_3 : Int), v12 = .int .i64 x12_3 ∧ v86 = .int .i64 x86_3 ∧ Aside0 (spec_SelfTimes.l3 kq x3_1 x12_3 l0_1 (l0_1.length : Int) x21_1 x6_2 (x6_2.length : Int) x86_3 a0_0 l0_1 = some r) ∧ Aside0 (kq ≤ k2) ∧ Aside0 (Kd.R (Kd.int .i64) 3 w' w.heap.size (fun _ => True) u3 x3_1) ∧ Aside0 (Kd.R k42 42 w' w.heap.size (fun _ => True) (.slice Ao93 x6_2.length co93) x6_2) ∧ Aside0 (w'.heap[gb120]? = some (.cells #[.int .i64 a0_0, (.slice (some ad122) l0_1.length c0_1)] 30 (0, 0))) ∧ Aside0 (w'.heap[gb123]? = some (.cells #[.int .i64 ((rd_T40 l0_1 x21_1).f0), .int .i64 ((rd_T40 l0_1 x21_1).f1), .string ((rd_T40 l0_1 x21_1).f2), .string ((rd_T40 l0_1 x21_1).f3), .int .i64 ((rd_T40 l0_1 x21_1).f4), .int .i64 ((rd_T40 l0_1 x21_1).f5), .bool ((rd_T40 l0_1 x21_1).f6)] 40 (0, 0))) ∧ Aside0 (Below w.heap.size w w'))
                    case atStart => exact ⟨(0), (0), (by first | rfl | (simp; done) | (simp [*]; done)), (by first | rfl | (simp; done) | (simp [*]; done)), H', ⟨Nat.le_refl _⟩, ⟨by (with_reducible repeat (first | apply Kd.R_alloc | apply Kd.R_drewN | apply Kd.R_drew)); exact HO_3.out⟩, ⟨by (with_reducible repeat (first | apply Kd.R_alloc | apply Kd.R_drewN | apply Kd.R_drew)); exact HO_6.out⟩, ⟨by (with_reducible repeat (first | refine blk_drewN ?_ _ | refine blk_drew ?_ | refine blk_alloc ?_ _)); exact BK120.out⟩, ⟨by (with_reducible repeat (first | refine blk_drewN ?_ _ | refine blk_drew ?_ | refine blk_alloc ?_ _)); exact BK123.out⟩, ⟨by repeat (first | (with_reducible first | exact HB.out | apply below_alloc | apply pw_below_drewN | apply below_drew1 | refine below_set ?_ GE120.out | refine below_set ?_ GE123.out) | exact HB.out)⟩⟩
                    case round =>
                      clear H'
                      try clear c1
                      try clear p1
                      try clear q1
                      try clear hx1
                      try clear c2
                      try clear p2
                      try clear c3
                      try clear c5
                      try clear c6
                      try clear p6
                      try clear c7
                      try clear c8
                      try clear c9
                      try clear p12
                      try clear q12
                      try clear hx12
                      try clear c15
                      try clear c16
                      try clear c17
                      try clear c17b0
                      try clear c18
                      try clear c19
                      try clear c20
                      try clear c20b0
                      try clear c20b1
                      try clear c28
                      try clear c28b0
                      try clear c29
                      try clear c30
                      try clear c31
                      try clear c31b0
                      try clear c33
                      try clear c34
                      try clear c34b0
                      try clear c36
                      try clear c53
                      try clear c54
                      try clear c55
                      try clear c57
                      try clear c58
                      try clear p64
                      try clear c65
                      try clear c65b0
                      try clear c67
                      try clear c69
                      try clear c70
                      try clear c71
                      try clear c73
                      try clear c74
                      try clear c80
                      try clear c81
                      try clear c82
                      try clear c84
                      try clear c85
                      try clear c88
                      try clear c89
                      try clear c91
                      try clear hcz56_0
                      try clear hcz56_1
                      try clear hcz59_0
                      try clear hcz59_1
                      try clear hcz59_2
                      try clear hcz59_3
                      try clear hcz59_4
                      try clear hcz59_5
                      try clear hcz59_6
                      try clear hcz63_0
                      try clear hcz63_1
                      try clear hcz63_2
                      try clear hcz63_3
                      try clear hcz63_4
                      try clear hcz63_5
                      try clear hcz63_6
                      try clear hcz64_0
                      try clear hcz64_1
                      try clear hcz72_0
                      try clear hcz72_1
                      try clear hcz75_0
                      try clear hcz75_1
                      try clear hcz75_2
                      try clear hcz75_3
                      try clear hcz75_4
                      try clear hcz75_5
                      try clear hcz75_6
                      try clear hcz83_0
                      try clear hcz83_1
                      try clear hcz86_0
                      try clear hcz86_1
                      try clear hcz86_2
                      try clear hcz86_3
                      try clear hcz86_4
                      try clear hcz86_5
                      try clear hcz86_6
                      try clear hcz90_0
                      try clear hcz90_1
                      try clear hcz90_2
                      try clear hcz90_3
                      try clear hcz90_4
                      try clear hcz90_5
                      try clear hcz90_6
                      try clear hcz92_0
                      try clear hcz92_1
                      try clear hcz92_2
                      try clear hcz92_3
                      try clear hcz92_4
                      try clear hcz92_5
                      try clear hcz92_6
                      try clear hfz56_0
                      try clear hfz56_1
                      try clear hfz59_0
                      try clear hfz59_1
                      try clear hfz59_2
                      try clear hfz59_3
                      try clear hfz59_4
                      try clear hfz59_5
                      try clear hfz59_6
                      try clear hfz63_0
                      try clear hfz63_1
                      try clear hfz63_2
                      try clear hfz63_3
                      try clear hfz63_4
                      try clear hfz63_5
                      try clear hfz63_6
                      try clear hfz64_0
                      try clear hfz64_1
                      try clear hfz72_0
                      try clear hfz72_1
                      try clear hfz75_0
                      try clear hfz75_1
                      try clear hfz75_2
                      try clear hfz75_3
                      try clear hfz75_4
                      try clear hfz75_5
                      try clear hfz75_6
                      try clear hfz83_0
                      try clear hfz83_1
                      try clear hfz86_0
                      try clear hfz86_1
                      try clear hfz86_2
                      try clear hfz86_3
                      try clear hfz86_4
                      try clear hfz86_5
                      try clear hfz86_6
                      try clear hfz90_0
                      try clear hfz90_1
                      try clear hfz90_2
                      try clear hfz90_3
                      try clear hfz90_4
                      try clear hfz90_5
                      try clear hfz90_6
                      try clear hfz92_0
                      try clear hfz92_1
                      try clear hfz92_2
                      try clear hfz92_3
                      try clear hfz92_4
                      try clear hfz92_5
                      try clear hfz92_6
                      try clear hx127_0
                      try clear hx127_1
                      try clear hx127_2
                      try clear hx127_3
                      try clear hx127_4
                      try clear hx127_5
                      try clear hx127_6
                      try clear hx129_0
                      try clear hx129_1
                      try clear p127
                      try clear p129
                      try clear q127
                      try clear q129
                      obtain ⟨x12_3, x86_3, rfl, rfl, HA, HK3, HO_3, HO_84, BK120, BK123, HB⟩ := hrel
                      cases gk with
                      | zero => exact absurd HA.out (by simp [spec_SelfTimes.l3])
                      | succ k3 =>
                        have H := HA.out
                        clear HA
                        simp only [spec_SelfTimes.l3] at H
                        by_cases c94 : x86_3 < (x6_2.length : Int)
                        · rw [if_pos c94] at H
                          have c94b0 : decide (x86_3 < (x6_2.length : Int)) = true := decide_eq_true c94
                          clear c94
                          by_cases c95 : 0 ≤ x86_3
                          · rw [if_pos c95] at H
                            have c95b0 : decide (0 ≤ x86_3) = true := decide_eq_true c95
                            clear c95
                            by_cases c96 : x86_3 < (x6_2.length : Int)
                            · rw [if_pos c96] at H
                              have c96b0 : decide (x86_3 < (x6_2.length : Int)) = true := decide_eq_true c96
                              clear c96
                              by_cases c97 : ((rd_T42 x6_2 x86_3).f1) > ((rd_T42 x6_2 x86_3).f0)
                              · rw [if_pos c97] at H
                                have c97b0 : decide (((rd_T42 x6_2 x86_3).f0) < ((rd_T42 x6_2 x86_3).f1)) = true := decide_eq_true c97
                                clear c97
                                have H' := Aside0.mk H
                                clear H
                                have p143 : 0 ≤ (x86_3 : Int) := of_decide_eq_true (by first | (with_reducible assumption) | assumption)
                                have q143 : x86_3 < (x6_2.length : Int) := of_decide_eq_true (by first | (with_reducible assumption) | assumption)
                                obtain ⟨ad143, e143, hx143_0, hx143_1⟩ := at_T42 (Kd.R_reads' HO_84.out).2.2 x86_3 p143 q143
                                cases e143
                                replace p143 := eq_true p143
                                replace q143 := eq_true q143
                                go_wp2_with (first | ((with_reducible refine gate_dst (N := 14) rfl ?_); refine box_event ?hg (N := 14) ?hd (cs := #[.int .i64 0, .int .i64 0]) (t := 42) ?hr ?_; (case hd => rfl); (case hg => rfl); (case hr => first | (go_simp; done) | (go_simp; rfl)); intro gb144 hg w98 hbox hb; have n0_ := Aside0.mk (Kd.R_below (by (with_reducible repeat (first | apply Kd.R_alloc | apply Kd.R_drewN | apply Kd.R_drew)); exact HO_3.out) hb); have n1_ := Aside0.mk (Kd.R_below (Kd.R_elderB (by (with_reducible repeat (first | apply Kd.R_alloc | apply Kd.R_drewN | apply Kd.R_drew)); exact HO_84.out) gb144 (Nat.le_of_eq hg.symm)) hb); have n2_ := Aside0.mk (blk_below (g := gb120) (o := .cells #[.int .i64 a0_0, .slice (some ad122) l0_1.length c0_1] 30 (0, 0)) (by (with_reducible repeat (first | refine blk_drewN ?_ _ | refine blk_drew ?_ | refine blk_alloc ?_ _)); exact BK120.out) hb); have n3_ := Aside0.mk (blk_below (g := gb123) (o := .cells #[.int .i64 ((rd_T40 l0_1 x21_1).f0), .int .i64 ((rd_T40 l0_1 x21_1).f1), .string ((rd_T40 l0_1 x21_1).f2), .string ((rd_T40 l0_1 x21_1).f3), .int .i64 ((rd_T40 l0_1 x21_1).f4), .int .i64 ((rd_T40 l0_1 x21_1).f5), .bool ((rd_T40 l0_1 x21_1).f6)] 40 (0, 0)) (by (with_reducible repeat (first | refine blk_drewN ?_ _ | refine blk_drew ?_ | refine blk_alloc ?_ _)); exact BK123.out) hb); have n4_ := Aside0.mk (below_step (by repeat (first | (with_reducible first | exact HB.out | apply below_alloc | apply pw_below_drewN | apply below_drew1 | refine below_set ?_ GE120.out | refine below_set ?_ GE123.out) | exact HB.out)) hb); have n5_ := Aside0.mk (hbox); have n6_ := Aside0.mk ((by rw [hg]; exact (below_size (by repeat (first | (with_reducible first | exact HB.out | apply below_alloc | apply pw_below_drewN | apply below_drew1 | refine below_set ?_ GE120.out | refine below_set ?_ GE123.out) | exact HB.out))) : w.heap.size ≤ gb144)); have n7_ := Aside0.mk ((by rw [hg]; exact (below_size (by repeat (first | (with_reducible first | exact HB.out | apply below_alloc | apply pw_below_drewN | apply below_drew1 | refine below_set ?_ GE120.out | refine below_set ?_ GE123.out) | exact HB.out))) : w.heap.size ≤ gb144)); have n8_ := Aside0.mk ((by rw [hg]; exact Nat.ne_of_lt (blk_lt (g := gb120) (o := .cells #[.int .i64 a0_0, .slice (some ad122) l0_1.length c0_1] 30 (0, 0)) (by (with_reducible repeat (first | refine blk_drewN ?_ _ | refine blk_drew ?_ | refine blk_alloc ?_ _)); exact BK120.out)) : gb120 ≠ gb144)); have n9_ := Aside0.mk ((by rw [hg]; exact Nat.ne_of_gt (blk_lt (g := gb120) (o := .cells #[.int .i64 a0_0, .slice (some ad122) l0_1.length c0_1] 30 (0, 0)) (by (with_reducible repeat (first | refine blk_drewN ?_ _ | refine blk_drew ?_ | refine blk_alloc ?_ _)); exact BK120.out)) : gb144 ≠ gb120)); have n10_ := Aside0.mk ((by rw [hg]; exact Nat.ne_of_lt (blk_lt (g := gb123) (o := .cells #[.int .i64 ((rd_T40 l0_1 x21_1).f0), .int .i64 ((rd_T40 l0_1 x21_1).f1), .string ((rd_T40 l0_1 x21_1).f2), .string ((rd_T40 l0_1 x21_1).f3), .int .i64 ((rd_T40 l0_1 x21_1).f4), .int .i64 ((rd_T40 l0_1 x21_1).f5), .bool ((rd_T40 l0_1 x21_1).f6)] 40 (0, 0)) (by (with_reducible repeat (first | refine blk_drewN ?_ _ | refine blk_drew ?_ | refine blk_alloc ?_ _)); exact BK123.out)) : gb123 ≠ gb144)); have n11_ := Aside0.mk ((by rw [hg]; exact Nat.ne_of_gt (blk_lt (g := gb123) (o := .cells #[.int .i64 ((rd_T40 l0_1 x21_1).f0), .int .i64 ((rd_T40 l0_1 x21_1).f1), .string ((rd_T40 l0_1 x21_1).f2), .string ((rd_T40 l0_1 x21_1).f3), .int .i64 ((rd_T40 l0_1 x21_1).f4), .int .i64 ((rd_T40 l0_1 x21_1).f5), .bool ((rd_T40 l0_1 x21_1).f6)] 40 (0, 0)) (by (with_reducible repeat (first | refine blk_drewN ?_ _ | refine blk_drew ?_ | refine blk_alloc ?_ _)); exact BK123.out)) : gb144 ≠ gb123)); clear HO_3; clear HO_84; clear BK120; clear BK123; clear HB; have HO_3 := n0_; have HO_84 := n1_; have BK120 := n2_; have BK123 := n3_; have HB := n4_; have BK144 := n5_; have GW144 := n6_; have GE144 := n7_; have NB120_144 := n8_; have NB144_120 := n9_; have NB123_144 := n10_; have NB144_123 := n11_; clear n0_ n1_ n2_ n3_ n4_ n5_ n6_ n7_ n8_ n9_ n10_ n11_; clear hb hbox hg; have hnb99 := NB144_120.out; have hnc99 := NB120_144.out; have hnb100 := NB144_123.out; have hnc100 := NB123_144.out; have hcz101_0 : w98.cell? ⟨gb144, 0, none⟩ = some (.int .i64 0) := (blk_cell BK144.out 0).trans rfl; have hcz101_1 : w98.cell? ⟨gb144, 1, none⟩ = some (.int .i64 0) := (blk_cell BK144.out 1).trans rfl; have hfz101_0 := blk_frozen BK144.out 0; have hfz101_1 := blk_frozen BK144.out 1))
                                go_roundg k3
                                case measure => have := HK1.out; have := HK2.out; have := HK3.out; omega
                                case rel => exact ⟨(wrap64 (x12_3 + (wrap64 (((rd_T42 x6_2 x86_3).f1) - ((rd_T42 x6_2 x86_3).f0))))), (wrap64 (x86_3 + 1)), (by first | rfl | (simp; done) | (simp [*]; done)), (by first | rfl | (simp; done) | (simp [*]; done)), H', ⟨by have := HK1.out; have := HK2.out; have := HK3.out; omega⟩, ⟨by (with_reducible repeat (first | apply Kd.R_alloc | apply Kd.R_drewN | apply Kd.R_drew)); exact Kd.R_mono (Kd.R_far (p := ⟨gb144, 1, none⟩) (Kd.R_far (p := ⟨gb144, 0, none⟩) (Kd.R_types HO_3.out BK144.out (by decide)) (fun _ hk => hk.2) (.int .i64 ((rd_T42 x6_2 x86_3).f0))) (fun _ hk => hk.2) (.int .i64 ((rd_T42 x6_2 x86_3).f1))) (fun _ hk => trivial)⟩, ⟨by (with_reducible repeat (first | apply Kd.R_alloc | apply Kd.R_drewN | apply Kd.R_drew)); exact Kd.R_mono (Kd.R_far (p := ⟨gb144, 1, none⟩) (Kd.R_far (p := ⟨gb144, 0, none⟩) (Kd.R_mono HO_84.out (fun k_ hk => (⟨hk, hk.2⟩ : _ ∧ k_ ≠ gb144))) (fun _ hk => hk.2) (.int .i64 ((rd_T42 x6_2 x86_3).f0))) (fun _ hk => hk.2) (.int .i64 ((rd_T42 x6_2 x86_3).f1))) (fun _ hk => trivial)⟩, ⟨by (with_reducible repeat (first | refine blk_drewN ?_ _ | refine blk_drew ?_ | refine blk_alloc ?_ _)); refine blk_far ?_ NB120_144.out _; (with_reducible repeat (first | refine blk_drewN ?_ _ | refine blk_drew ?_ | refine blk_alloc ?_ _)); refine blk_far ?_ NB120_144.out _; (with_reducible repeat (first | refine blk_drewN ?_ _ | refine blk_drew ?_ | refine blk_alloc ?_ _)); exact BK120.out⟩, ⟨by (with_reducible repeat (first | refine blk_drewN ?_ _ | refine blk_drew ?_ | refine blk_alloc ?_ _)); refine blk_far ?_ NB123_144.out _; (with_reducible repeat (first | refine blk_drewN ?_ _ | refine blk_drew ?_ | refine blk_alloc ?_ _)); refine blk_far ?_ NB123_144.out _; (with_reducible repeat (first | refine blk_drewN ?_ _ | refine blk_drew ?_ | refine blk_alloc ?_ _)); exact BK123.out⟩, ⟨by repeat (first | (with_reducible first | exact HB.out | apply below_alloc | apply pw_below_drewN | apply below_drew1 | refine below_set ?_ GE120.out | refine below_set ?_ GE123.out | refine below_set ?_ GE144.out) | exact HB.out)⟩⟩
                              · rw [if_neg c97] at H
                                have c97b0 : decide (((rd_T42 x6_2 x86_3).f0) < ((rd_T42 x6_2 x86_3).f1)) = false := decide_eq_false c97
                                clear c97
                                have H' := Aside0.mk H
                                clear H
                                have p143 : 0 ≤ (x86_3 : Int) := of_decide_eq_true (by first | (with_reducible assumption) | assumption)
                                have q143 : x86_3 < (x6_2.length : Int) := of_decide_eq_true (by first | (with_reducible assumption) | assumption)
                                obtain ⟨ad143, e143, hx143_0, hx143_1⟩ := at_T42 (Kd.R_reads' HO_84.out).2.2 x86_3 p143 q143
                                cases e143
                                replace p143 := eq_true p143
                                replace q143 := eq_true q143
                                go_wp2_with (first | ((with_reducible refine gate_dst (N := 14) rfl ?_); refine box_event ?hg (N := 14) ?hd (cs := #[.int .i64 0, .int .i64 0]) (t := 42) ?hr ?_; (case hd => rfl); (case hg => rfl); (case hr => first | (go_simp; done) | (go_simp; rfl)); intro gb144 hg w102 hbox hb; have n0_ := Aside0.mk (Kd.R_below (by (with_reducible repeat (first | apply Kd.R_alloc | apply Kd.R_drewN | apply Kd.R_drew)); exact HO_3.out) hb); have n1_ := Aside0.mk (Kd.R_below (Kd.R_elderB (by (with_reducible repeat (first | apply Kd.R_alloc | apply Kd.R_drewN | apply Kd.R_drew)); exact HO_84.out) gb144 (Nat.le_of_eq hg.symm)) hb); have n2_ := Aside0.mk (blk_below (g := gb120) (o := .cells #[.int .i64 a0_0, .slice (some ad122) l0_1.length c0_1] 30 (0, 0)) (by (with_reducible repeat (first | refine blk_drewN ?_ _ | refine blk_drew ?_ | refine blk_alloc ?_ _)); exact BK120.out) hb); have n3_ := Aside0.mk (blk_below (g := gb123) (o := .cells #[.int .i64 ((rd_T40 l0_1 x21_1).f0), .int .i64 ((rd_T40 l0_1 x21_1).f1), .string ((rd_T40 l0_1 x21_1).f2), .string ((rd_T40 l0_1 x21_1).f3), .int .i64 ((rd_T40 l0_1 x21_1).f4), .int .i64 ((rd_T40 l0_1 x21_1).f5), .bool ((rd_T40 l0_1 x21_1).f6)] 40 (0, 0)) (by (with_reducible repeat (first | refine blk_drewN ?_ _ | refine blk_drew ?_ | refine blk_alloc ?_ _)); exact BK123.out) hb); have n4_ := Aside0.mk (below_step (by repeat (first | (with_reducible first | exact HB.out | apply below_alloc | apply pw_below_drewN | apply below_drew1 | refine below_set ?_ GE120.out | refine below_set ?_ GE123.out) | exact HB.out)) hb); have n5_ := Aside0.mk (hbox); have n6_ := Aside0.mk ((by rw [hg]; exact (below_size (by repeat (first | (with_reducible first | exact HB.out | apply below_alloc | apply pw_below_drewN | apply below_drew1 | refine below_set ?_ GE120.out | refine below_set ?_ GE123.out) | exact HB.out))) : w.heap.size ≤ gb144)); have n7_ := Aside0.mk ((by rw [hg]; exact (below_size (by repeat (first | (with_reducible first | exact HB.out | apply below_alloc | apply pw_below_drewN | apply below_drew1 | refine below_set ?_ GE120.out | refine below_set ?_ GE123.out) | exact HB.out))) : w.heap.size ≤ gb144)); have n8_ := Aside0.mk ((by rw [hg]; exact Nat.ne_of_lt (blk_lt (g := gb120) (o := .cells #[.int .i64 a0_0, .slice (some ad122) l0_1.length c0_1] 30 (0, 0)) (by (with_reducible repeat (first | refine blk_drewN ?_ _ | refine blk_drew ?_ | refine blk_alloc ?_ _)); exact BK120.out)) : gb120 ≠ gb144)); have n9_ := Aside0.mk ((by rw [hg]; exact Nat.ne_of_gt (blk_lt (g := gb120) (o := .cells #[.int .i64 a0_0, .slice (some ad122) l0_1.length c0_1] 30 (0, 0)) (by (with_reducible repeat (first | refine blk_drewN ?_ _ | refine blk_drew ?_ | refine blk_alloc ?_ _)); exact BK120.out)) : gb144 ≠ gb120)); have n10_ := Aside0.mk ((by rw [hg]; exact Nat.ne_of_lt (blk_lt (g := gb123) (o := .cells #[.int .i64 ((rd_T40 l0_1 x21_1).f0), .int .i64 ((rd_T40 l0_1 x21_1).f1), .string ((rd_T40 l0_1 x21_1).f2), .string ((rd_T40 l0_1 x21_1).f3), .int .i64 ((rd_T40 l0_1 x21_1).f4), .int .i64 ((rd_T40 l0_1 x21_1).f5), .bool ((rd_T40 l0_1 x21_1).f6)] 40 (0, 0)) (by (with_reducible repeat (first | refine blk_drewN ?_ _ | refine blk_drew ?_ | refine blk_alloc ?_ _)); exact BK123.out)) : gb123 ≠ gb144)); have n11_ := Aside0.mk ((by rw [hg]; exact Nat.ne_of_gt (blk_lt (g := gb123) (o := .cells #[.int .i64 ((rd_T40 l0_1 x21_1).f0), .int .i64 ((rd_T40 l0_1 x21_1).f1), .string ((rd_T40 l0_1 x21_1).f2), .string ((rd_T40 l0_1 x21_1).f3), .int .i64 ((rd_T40 l0_1 x21_1).f4), .int .i64 ((rd_T40 l0_1 x21_1).f5), .bool ((rd_T40 l0_1 x21_1).f6)] 40 (0, 0)) (by (with_reducible repeat (first | refine blk_drewN ?_ _ | refine blk_drew ?_ | refine blk_alloc ?_ _)); exact BK123.out)) : gb144 ≠ gb123)); clear HO_3; clear HO_84; clear BK120; clear BK123; clear HB; have HO_3 := n0_; have HO_84 := n1_; have BK120 := n2_; have BK123 := n3_; have HB := n4_; have BK144 := n5_; have GW144 := n6_; have GE144 := n7_; have NB120_144 := n8_; have NB144_120 := n9_; have NB123_144 := n10_; have NB144_123 := n11_; clear n0_ n1_ n2_ n3_ n4_ n5_ n6_ n7_ n8_ n9_ n10_ n11_; clear hb hbox hg; have hnb103 := NB144_120.out; have hnc103 := NB120_144.out; have hnb104 := NB144_123.out; have hnc104 := NB123_144.out; have hcz105_0 : w102.cell? ⟨gb144, 0, none⟩ = some (.int .i64 0) := (blk_cell BK144.out 0).trans rfl; have hcz105_1 : w102.cell? ⟨gb144, 1, none⟩ = some (.int .i64 0) := (blk_cell BK144.out 1).trans rfl; have hfz105_0 := blk_frozen BK144.out 0; have hfz105_1 := blk_frozen BK144.out 1))
                                go_roundg k3
                                case measure => have := HK1.out; have := HK2.out; have := HK3.out; omega
                                case rel => exact ⟨(x12_3), (wrap64 (x86_3 + 1)), (by first | rfl | (simp; done) | (simp [*]; done)), (by first | rfl | (simp; done) | (simp [*]; done)), H', ⟨by have := HK1.out; have := HK2.out; have := HK3.out; omega⟩, ⟨by (with_reducible repeat (first | apply Kd.R_alloc | apply Kd.R_drewN | apply Kd.R_drew)); exact Kd.R_mono (Kd.R_far (p := ⟨gb144, 1, none⟩) (Kd.R_far (p := ⟨gb144, 0, none⟩) (Kd.R_types HO_3.out BK144.out (by decide)) (fun _ hk => hk.2) (.int .i64 ((rd_T42 x6_2 x86_3).f0))) (fun _ hk => hk.2) (.int .i64 ((rd_T42 x6_2 x86_3).f1))) (fun _ hk => trivial)⟩, ⟨by (with_reducible repeat (first | apply Kd.R_alloc | apply Kd.R_drewN | apply Kd.R_drew)); exact Kd.R_mono (Kd.R_far (p := ⟨gb144, 1, none⟩) (Kd.R_far (p := ⟨gb144, 0, none⟩) (Kd.R_mono HO_84.out (fun k_ hk => (⟨hk, hk.2⟩ : _ ∧ k_ ≠ gb144))) (fun _ hk => hk.2) (.int .i64 ((rd_T42 x6_2 x86_3).f0))) (fun _ hk => hk.2) (.int .i64 ((rd_T42 x6_2 x86_3).f1))) (fun _ hk => trivial)⟩, ⟨by (with_reducible repeat (first | refine blk_drewN ?_ _ | refine blk_drew ?_ | refine blk_alloc ?_ _)); refine blk_far ?_ NB120_144.out _; (with_reducible repeat (first | refine blk_drewN ?_ _ | refine blk_drew ?_ | refine blk_alloc ?_ _)); refine blk_far ?_ NB120_144.out _; (with_reducible repeat (first | refine blk_drewN ?_ _ | refine blk_drew ?_ | refine blk_alloc ?_ _)); exact BK120.out⟩, ⟨by (with_reducible repeat (first | refine blk_drewN ?_ _ | refine blk_drew ?_ | refine blk_alloc ?_ _)); refine blk_far ?_ NB123_144.out _; (with_reducible repeat (first | refine blk_drewN ?_ _ | refine blk_drew ?_ | refine blk_alloc ?_ _)); refine blk_far ?_ NB123_144.out _; (with_reducible repeat (first | refine blk_drewN ?_ _ | refine blk_drew ?_ | refine blk_alloc ?_ _)); exact BK123.out⟩, ⟨by repeat (first | (with_reducible first | exact HB.out | apply below_alloc | apply pw_below_drewN | apply below_drew1 | refine below_set ?_ GE120.out | refine below_set ?_ GE123.out | refine below_set ?_ GE144.out) | exact HB.out)⟩⟩
                            · rw [if_neg c96] at H
                              exact absurd H (by simp)
                          · rw [if_neg c95] at H
                            exact absurd H (by simp)
                        · rw [if_neg c94] at H
                          have c94b0 : decide (x86_3 < (x6_2.length : Int)) = false := decide_eq_false c94
                          clear c94
                          by_cases c106 : x3_1.length < 17592186044416
                          · rw [if_pos c106] at H
                            have LMc106 := Aside0.mk c106
                            clear c106
                            obtain ⟨y145, hy145⟩ : ∃ y_ : List Int, y_ = (x3_1 ++ [x12_3]) := ⟨_, rfl⟩
                            replace H : (spec_SelfTimes.l0 k3 y145 l0_1 (l0_1.length : Int) (wrap64 (x21_1 + 1)) a0_0 l0_1) = some r := by first | (rw [hy145]; with_reducible exact H) | (have H2_ := (Option.bind_some _ _).symm.trans H; rw [hy145]; with_reducible exact H2_) | (have H2_ := (Option.bind_some _ _).symm.trans H; with_reducible exact H2_) | with_reducible exact H | (rw [hy145]; exact H) | exact H
                            have Ny145 := Aside0.mk hy145
                            clear hy145
                            have H' := Aside0.mk H
                            clear H
                            go_wp2_with (first | ((with_reducible refine gate_builtin (b := .append) (xs := #[.tmp 103, .tmp 105]) rfl ?_); at_builtin; refine Kd.R_append (Kd.int .i64) (w0 := w) w.heap.size rfl (.tmp 103) (.tmp 105) 26 3 (.int .i64 0) 8 rfl Try.underlying26 info3 rfl (by decide) (by omega) u3 x3_1 x12_3 [.int .i64 x12_3] (fun _ => True) (fun _ => False) rfl rfl ?aP (fun _ hk => hk.elim) ?aF ?aO ?aB ?aS ?aL ?_; (case aP => exact rfl); (case aB => exact (by repeat (first | (with_reducible first | exact HB.out | apply below_alloc | apply pw_below_drewN | apply below_drew1 | refine below_set ?_ GE120.out | refine below_set ?_ GE123.out) | exact HB.out))); (case aF => exact (fun _ _ => trivial)); (case aO => exact (by (with_reducible repeat (first | apply Kd.R_alloc | apply Kd.R_drewN | apply Kd.R_drew)); exact HO_3.out)); (case aS => exact (below_size (by repeat (first | (with_reducible first | exact HB.out | apply below_alloc | apply pw_below_drewN | apply below_drew1 | refine below_set ?_ GE120.out | refine below_set ?_ GE123.out) | exact HB.out)))); (case aL => have := LMc106.out; omega); intro v146 w107 ho hb hg hat; rw [← Ny145.out] at ho; have n0_ := Aside0.mk (Kd.R_over' (by (with_reducible repeat (first | apply Kd.R_alloc | apply Kd.R_drewN | apply Kd.R_drew)); exact HO_84.out) (Kd.R_typed (by (with_reducible repeat (first | apply Kd.R_alloc | apply Kd.R_drewN | apply Kd.R_drew)); exact HO_3.out)) (by decide) hg); have n1_ := Aside0.mk (blk_grown (g := gb120) (o := .cells #[.int .i64 a0_0, .slice (some ad122) l0_1.length c0_1] 30 (0, 0)) (by (with_reducible repeat (first | refine blk_drewN ?_ _ | refine blk_drew ?_ | refine blk_alloc ?_ _)); exact BK120.out) hg (Kd.R_ne HO_3.out BK120.out (by decide))); have n2_ := Aside0.mk (blk_grown (g := gb123) (o := .cells #[.int .i64 ((rd_T40 l0_1 x21_1).f0), .int .i64 ((rd_T40 l0_1 x21_1).f1), .string ((rd_T40 l0_1 x21_1).f2), .string ((rd_T40 l0_1 x21_1).f3), .int .i64 ((rd_T40 l0_1 x21_1).f4), .int .i64 ((rd_T40 l0_1 x21_1).f5), .bool ((rd_T40 l0_1 x21_1).f6)] 40 (0, 0)) (by (with_reducible repeat (first | refine blk_drewN ?_ _ | refine blk_drew ?_ | refine blk_alloc ?_ _)); exact BK123.out) hg (Kd.R_ne HO_3.out BK123.out (by decide))); have n3_ := Aside0.mk (hb); have n4_ := Aside0.mk (ho); clear HO_84; clear BK120; clear BK123; clear HB; clear HO_3; have HO_84 := n0_; have BK120 := n1_; have BK123 := n2_; have HB := n3_; have HO147 := n4_; clear n0_ n1_ n2_ n3_ n4_; clear ho hb hg hat))
                            go_roundg k3
                            case measure => have := HK1.out; have := HK2.out; have := HK3.out; omega
                            case rel => exact ⟨(y145), (wrap64 (x21_1 + 1)), (by first | rfl | (simp; done) | (simp [*]; done)), H', ⟨by have := HK1.out; have := HK2.out; have := HK3.out; omega⟩, ⟨by (with_reducible repeat (first | apply Kd.R_alloc | apply Kd.R_drewN | apply Kd.R_drew)); exact HO147.out⟩, ⟨by (with_reducible repeat (first | refine blk_drewN ?_ _ | refine blk_drew ?_ | refine blk_alloc ?_ _)); exact BK120.out⟩, ⟨by repeat (first | (with_reducible first | exact HB.out | apply below_alloc | apply pw_below_drewN | apply below_drew1 | refine below_set ?_ GE120.out | refine below_set ?_ GE123.out) | exact HB.out)⟩⟩
                          · rw [if_neg c106] at H
                            exact absurd H (by simp)
            · rw [if_neg c10] at H
              exact absurd H (by simp)
          · rw [if_neg c9] at H
            exact absurd H (by simp)
        · rw [if_neg c8] at H
          have c8b0 : decide (x21_1 < (l0_1.length : Int)) = false := decide_eq_false c8
          clear c8
          obtain rfl := Option.some.inj H
          go_wp2
          go_ret
          exact ⟨_, by first | rfl | (simp [bne]; done) | (simp [errW_none, errW_some] <;> rfl) | (simp [*, errW_none, errW_some] <;> rfl), by (with_reducible repeat (first | apply Kd.R_alloc | apply Kd.R_drewN | apply Kd.R_drew)); exact HO_3.out, by repeat (first | (with_reducible first | exact HB.out | apply below_alloc | apply pw_below_drewN | apply below_drew1 | refine below_set ?_ GE120.out) | exact HB.out)⟩
  · replace c3 := Bool.eq_false_iff.mpr c3
    subst c3
    have H1 : (some ([] : List Int)) = some r := by rw [if_neg (show ¬ (false = true) by decide)] at H; exact H
    clear H
    have H := H1
    clear H1
    obtain rfl := Option.some.inj H
    go_enter Try.func5, Try.ntmps5
    go_wp2_with (first | ((with_reducible refine gate_dst (N := 1) rfl ?_); refine box_event ?hg (N := 1) ?hd (cs := #[.int .i64 a0_0, .slice A0_1 l0_1.length c0_1]) (t := 30) ?hr ?_; (case hd => rfl); (case hg => rfl); (case hr => first | (go_simp; done) | (go_simp; rfl)); intro gb120 hg w108 hbox hb; have n0_ := Aside0.mk (below_step (by repeat (first | (with_reducible first | exact HB.out | apply below_alloc | apply pw_below_drewN | apply below_drew1) | exact HB.out)) hb); have n1_ := Aside0.mk (hbox); have n2_ := Aside0.mk ((by rw [hg]; exact (below_size (by repeat (first | (with_reducible first | exact HB.out | apply below_alloc | apply pw_below_drewN | apply below_drew1) | exact HB.out))) : w.heap.size ≤ gb120)); have n3_ := Aside0.mk ((by rw [hg]; exact (below_size (by repeat (first | (with_reducible first | exact HB.out | apply below_alloc | apply pw_below_drewN | apply below_drew1) | exact HB.out))) : w.heap.size ≤ gb120)); clear HB; have HB := n0_; have BK120 := n1_; have GW120 := n2_; have GE120 := n3_; clear n0_ n1_ n2_ n3_; clear hb hbox hg; have hcz109_0 : w108.cell? ⟨gb120, 0, none⟩ = some (.int .i64 a0_0) := (blk_cell BK120.out 0).trans rfl; have hcz109_1 : w108.cell? ⟨gb120, 1, none⟩ = some (.slice A0_1 l0_1.length c0_1) := (blk_cell BK120.out 1).trans rfl; have hfz109_0 := blk_frozen BK120.out 0; have hfz109_1 := blk_frozen BK120.out 1) | ((with_reducible refine gate_callee (f := 14) rfl ?_); refine goesL_ (some 16) rfl rfl Try.func14 (by kernel_rfl) rfl #[.agg #[.int .i64 a0_0, .slice A0_1 l0_1.length c0_1]] rfl (by (try simp only [List.map_toArray, List.map_cons, List.map_nil]); first | done | rfl | (simp only [List.length_drop, List.length_take]; rfl)) ?_; (with_reducible refine (spec_GoodTrace.calls a0_0 _ _ l0_1 false _ ?side1 ?side2 A2.out).mono ?_); (case side1 => repeat (first | exact (Kd.C_below HR0_1.out HB.out) | (with_reducible refine Kd.C_alloc ?_ _) | (with_reducible refine Kd.C_drewN ?_ _) | (with_reducible refine Kd.C_drew ?_))); (case side2 => exact HC0_1.out); rintro e w110 ⟨rfl, hb⟩; refine ⟨_, rfl, ?_⟩; have n0_ := Aside0.mk (blk_below (g := gb120) (o := .cells #[.int .i64 a0_0, .slice A0_1 l0_1.length c0_1] 30 (0, 0)) (by (with_reducible repeat (first | refine blk_drewN ?_ _ | refine blk_drew ?_ | refine blk_alloc ?_ _)); exact BK120.out) hb); have n1_ := Aside0.mk (below_step (by repeat (first | (with_reducible first | exact HB.out | apply below_alloc | apply pw_below_drewN | apply below_drew1 | refine below_set ?_ GE120.out) | exact HB.out)) hb); clear BK120; clear HB; have BK120 := n0_; have HB := n1_; clear n0_ n1_; (try clear hb); (try clear hb2); (try clear hk); (try clear hi)))
    go_ret
    exact ⟨_, by first | rfl | (simp [bne]; done) | (simp [errW_none, errW_some] <;> rfl) | (simp [*, errW_none, errW_some] <;> rfl), by first | exact Kd.R_nil _ _ _ _ _ | exact Kd.N_nil _ _ _ _ _ | exact Kd.V_nil _ _ _ _ _ | exact Kd.Q_nil _ _ _ _ _ | exact Kd.S_nil _ _ _ _ _, by repeat (first | (with_reducible first | exact HB.out | apply below_alloc | apply pw_below_drewN | apply below_drew1 | refine below_set ?_ GE120.out) | exact HB.out)⟩

end Go.Proofs.Ytkehglgehbfcmaa.PFnExactSelfTimes
