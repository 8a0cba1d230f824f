-- Written by a program of this repo (myprint: the kit's print with functions given by hand).
import Derived.Test.YtafphfdnoejdeaaPFnExactGoodPipex0
import Derived.Test.YtafphfdnoejdeaaPFnExactGoodPipex1
import Derived.Test.YtafphfdnoejdeaaPFnExactGoodPipex4
import Derived.Test.YtafphfdnoejdeaaPFnExactGoodPipex5
import Derived.Test.YtafphfdnoejdeaaPFnExactGoodPipex6
import Derived.Test.YtafphfdnoejdeaaPFnExactGoodPipex7
import Derived.Test.YtafphfdnoejdeaaPFnExactGoodPipex8
import Derived.Test.YtafphfdnoejdeaaPFnExactGoodPipex9
import Derived.Test.YtafphfdnoejdeaaHSpecPattern
namespace Go.Proofs.Ytafphfdnoejdeaa.PFnExactGoodPipe
attribute [local go_sem] Go.Proofs.Ytafphfdnoejdeaa.Cmp.str_gtr Go.Proofs.Ytafphfdnoejdeaa.Cmp.str_geq Go.Proofs.Ytafphfdnoejdeaa.Cmp.str_leq
open Go.RowKit Go.Proofs.YtafphfdnoejdeaaW.PrintWords Go.Proofs.YtafphfdnoejdeaaW.PrintLast Go.Proofs.YtafphfdnoejdeaaW.PrintMore
attribute [local go_sem] max2_int min2_int max_two min_two max_three min_three max_four min_four   -- for this text's walks alone
set_option linter.unusedVariables false
set_option linter.unusedSimpArgs false

attribute [local go_sem high] eqA39
/-! ### spec_l22Stage: function 12 -/
mutual
def spec_l22Stage.j0 : Nat → Bool → Int → ByteArray → ByteArray → Int → ByteArray → Int → Int → List ByteArray → Option (Bool)
 | 0, _, _, _, _, _, _, _, _, _ => none
 | k + 1, x43, x241000, x241001, x241002, x241003, x241004, x241005, x241006, x241007 => if x43 = true then (some false) else (if x241000 = 1 then (spec_l22Stage.j1 k x241000 (x241000 == 1) x241000 x241001 x241002 x241003 x241004 x241005 x241006 x241007) else (spec_l22Stage.j1 k x241000 (x241000 == 2) x241000 x241001 x241002 x241003 x241004 x241005 x241006 x241007))
def spec_l22Stage.j1 : Nat → Int → Bool → Int → ByteArray → ByteArray → Int → ByteArray → Int → Int → List ByteArray → Option (Bool)
 | 0, _, _, _, _, _, _, _, _, _, _ => none
 | k + 1, x45, x46, x241000, x241001, x241002, x241003, x241004, x241005, x241006, x241007 => if x46 = true then (if x241001.toList = ([] : List UInt8) then (some false) else ((spec_l22Text.f k x241001 100).bind fun t252 => (some t252))) else (if x45 = 3 then (spec_l22Stage.j2 k x45 (x45 == 3) x241000 x241001 x241002 x241003 x241004 x241005 x241006 x241007) else (spec_l22Stage.j2 k x45 (x45 == 4) x241000 x241001 x241002 x241003 x241004 x241005 x241006 x241007))
def spec_l22Stage.j2 : Nat → Int → Bool → Int → ByteArray → ByteArray → Int → ByteArray → Int → Int → List ByteArray → Option (Bool)
 | 0, _, _, _, _, _, _, _, _, _, _ => none
 | k + 1, x45, x57, x241000, x241001, x241002, x241003, x241004, x241005, x241006, x241007 => if x57 = true then (if x241001.toList = ([] : List UInt8) then (some false) else ((spec_GoodPattern.f k x241001).bind fun t253 => (some t253))) else (if x45 = 5 then (some true) else (if x45 = 6 then ((spec_l22Form.f k x241001).bind fun bt254 => (some bt254.2.2)) else (if x45 = 7 then ((spec_GoodMatchers.f k (([(⟨x241002, x241003, x241004⟩ : S39)] : List (S39)))).bind fun t264 => (some t264)) else (if x45 = 8 then ((spec_l2Name.f k x241002).bind fun t265 => (if t265 = true then ((spec_l15Compare.f x241005).bind fun t266 => (some t266)) else (some false))) else (if x45 = 9 then ((spec_GoodTemplate.f k x241001).bind fun t267 => (some t267)) else (if x45 = 10 then (if (x241007.length : Int) > 0 then ((spec_l15Names.f k x241007).bind fun t268 => (some t268)) else (some false)) else (if x45 = 11 then (if (x241007.length : Int) > 0 then ((spec_l15Names.f k x241007).bind fun t269 => (some t269)) else (some false)) else (some false))))))))
end
def spec_l22Stage.f (k : Nat) (a0_0 : Int) (a0_1 : ByteArray) (a0_2 : ByteArray) (a0_3 : Int) (a0_4 : ByteArray) (a0_5 : Int) (a0_6 : Int) (l0_7 : List ByteArray) : Option (Bool) := (spec_l22Zero.f k a0_0 a0_1 a0_2 a0_3 a0_4 a0_5 a0_6 l0_7).bind fun bt241 => (if a0_1.toList = bt241.2.1.toList then (if (!(a0_2.toList == bt241.2.2.1.toList) || (!(a0_3 == bt241.2.2.2.1) || (!(a0_4.toList == bt241.2.2.2.2.1.toList)))) = true then (spec_l22Stage.j0 k true a0_0 a0_1 a0_2 a0_3 a0_4 a0_5 a0_6 l0_7) else (if a0_5 = bt241.2.2.2.2.2.1 then (if a0_6 = bt241.2.2.2.2.2.2.1 then (spec_l22Stage.j0 k ((l0_7.length : Int) != (bt241.2.2.2.2.2.2.2.length : Int)) a0_0 a0_1 a0_2 a0_3 a0_4 a0_5 a0_6 l0_7) else (spec_l22Stage.j0 k true a0_0 a0_1 a0_2 a0_3 a0_4 a0_5 a0_6 l0_7)) else (spec_l22Stage.j0 k true a0_0 a0_1 a0_2 a0_3 a0_4 a0_5 a0_6 l0_7))) else (spec_l22Stage.j0 k true a0_0 a0_1 a0_2 a0_3 a0_4 a0_5 a0_6 l0_7))
theorem spec_l22Stage.mono_l : ∀ k, (∀ y0 y1 y2 y3 y4 y5 y6 y7 y8, LeO (spec_l22Stage.j0 k y0 y1 y2 y3 y4 y5 y6 y7 y8) (spec_l22Stage.j0 (k + 1) y0 y1 y2 y3 y4 y5 y6 y7 y8)) ∧ (∀ y0 y1 y2 y3 y4 y5 y6 y7 y8 y9, LeO (spec_l22Stage.j1 k y0 y1 y2 y3 y4 y5 y6 y7 y8 y9) (spec_l22Stage.j1 (k + 1) y0 y1 y2 y3 y4 y5 y6 y7 y8 y9)) ∧ (∀ y0 y1 y2 y3 y4 y5 y6 y7 y8 y9, LeO (spec_l22Stage.j2 k y0 y1 y2 y3 y4 y5 y6 y7 y8 y9) (spec_l22Stage.j2 (k + 1) y0 y1 y2 y3 y4 y5 y6 y7 y8 y9))
 | 0 => ⟨fun _ _ _ _ _ _ _ _ _ r h => by simp [spec_l22Stage.j0] at h, fun _ _ _ _ _ _ _ _ _ _ r h => by simp [spec_l22Stage.j1] at h, fun _ _ _ _ _ _ _ _ _ _ r h => by simp [spec_l22Stage.j2] at h⟩
 | k + 1 => by
  obtain ⟨ih0, ih1, ih2⟩ := spec_l22Stage.mono_l k
  refine ⟨?_, ?_, ?_⟩
  ·intro y0 y1 y2 y3 y4 y5 y6 y7 y8
   unfold spec_l22Stage.j0
   repeat' first
   | (with_reducible exact ih0 _ _ _ _ _ _ _ _ _)
   | (with_reducible exact ih1 _ _ _ _ _ _ _ _ _ _)
   | (with_reducible exact ih2 _ _ _ _ _ _ _ _ _ _)
   | (with_reducible exact spec_GoodMatchers.mono _ _)
   | (with_reducible exact spec_GoodPattern.mono _ _)
   | (with_reducible exact spec_GoodTemplate.mono _ _)
   | (with_reducible exact spec_l15Names.mono _ _)
   | (with_reducible exact spec_l22Form.mono _ _)
   | (with_reducible exact spec_l22Text.mono _ _ _)
   | (with_reducible exact spec_l22Zero.mono _ _ _ _ _ _ _ _ _)
   | (with_reducible exact spec_l2Name.mono _ _)
   | (with_reducible exact LeO.refl _)
   | (with_reducible exact LeO.none _)
   | (with_reducible refine LeO.ite ?_ ?_)
   | (with_reducible refine LeO.bind ?_ (fun _ => ?_))
   | exact ih0 _ _ _ _ _ _ _ _ _
   | exact ih1 _ _ _ _ _ _ _ _ _ _
   | exact ih2 _ _ _ _ _ _ _ _ _ _
   | exact spec_GoodMatchers.mono _ _
   | exact spec_GoodPattern.mono _ _
   | exact spec_GoodTemplate.mono _ _
   | exact spec_l15Names.mono _ _
   | exact spec_l22Form.mono _ _
   | exact spec_l22Text.mono _ _ _
   | exact spec_l22Zero.mono _ _ _ _ _ _ _ _ _
   | exact spec_l2Name.mono _ _
   | exact LeO.none _
   | refine LeO.ite ?_ ?_
   | refine LeO.bind ?_ (fun _ => ?_)
  ·intro y0 y1 y2 y3 y4 y5 y6 y7 y8 y9
   unfold spec_l22Stage.j1
   repeat' first
   | (with_reducible exact ih0 _ _ _ _ _ _ _ _ _)
   | (with_reducible exact ih1 _ _ _ _ _ _ _ _ _ _)
   | (with_reducible exact ih2 _ _ _ _ _ _ _ _ _ _)
   | (with_reducible exact spec_GoodMatchers.mono _ _)
   | (with_reducible exact spec_GoodPattern.mono _ _)
   | (with_reducible exact spec_GoodTemplate.mono _ _)
   | (with_reducible exact spec_l15Names.mono _ _)
   | (with_reducible exact spec_l22Form.mono _ _)
   | (with_reducible exact spec_l22Text.mono _ _ _)
   | (with_reducible exact spec_l22Zero.mono _ _ _ _ _ _ _ _ _)
   | (with_reducible exact spec_l2Name.mono _ _)
   | (with_reducible exact LeO.refl _)
   | (with_reducible exact LeO.none _)
   | (with_reducible refine LeO.ite ?_ ?_)
   | (with_reducible refine LeO.bind ?_ (fun _ => ?_))
   | exact ih0 _ _ _ _ _ _ _ _ _
   | exact ih1 _ _ _ _ _ _ _ _ _ _
   | exact ih2 _ _ _ _ _ _ _ _ _ _
   | exact spec_GoodMatchers.mono _ _
   | exact spec_GoodPattern.mono _ _
   | exact spec_GoodTemplate.mono _ _
   | exact spec_l15Names.mono _ _
   | exact spec_l22Form.mono _ _
   | exact spec_l22Text.mono _ _ _
   | exact spec_l22Zero.mono _ _ _ _ _ _ _ _ _
   | exact spec_l2Name.mono _ _
   | exact LeO.none _
   | refine LeO.ite ?_ ?_
   | refine LeO.bind ?_ (fun _ => ?_)
  ·intro y0 y1 y2 y3 y4 y5 y6 y7 y8 y9
   unfold spec_l22Stage.j2
   repeat' first
   | (with_reducible exact ih0 _ _ _ _ _ _ _ _ _)
   | (with_reducible exact ih1 _ _ _ _ _ _ _ _ _ _)
   | (with_reducible exact ih2 _ _ _ _ _ _ _ _ _ _)
   | (with_reducible exact spec_GoodMatchers.mono _ _)
   | (with_reducible exact spec_GoodPattern.mono _ _)
   | (with_reducible exact spec_GoodTemplate.mono _ _)
   | (with_reducible exact spec_l15Names.mono _ _)
   | (with_reducible exact spec_l22Form.mono _ _)
   | (with_reducible exact spec_l22Text.mono _ _ _)
   | (with_reducible exact spec_l22Zero.mono _ _ _ _ _ _ _ _ _)
   | (with_reducible exact spec_l2Name.mono _ _)
   | (with_reducible exact LeO.refl _)
   | (with_reducible exact LeO.none _)
   | (with_reducible refine LeO.ite ?_ ?_)
   | (with_reducible refine LeO.bind ?_ (fun _ => ?_))
   | exact ih0 _ _ _ _ _ _ _ _ _
   | exact ih1 _ _ _ _ _ _ _ _ _ _
   | exact ih2 _ _ _ _ _ _ _ _ _ _
   | exact spec_GoodMatchers.mono _ _
   | exact spec_GoodPattern.mono _ _
   | exact spec_GoodTemplate.mono _ _
   | exact spec_l15Names.mono _ _
   | exact spec_l22Form.mono _ _
   | exact spec_l22Text.mono _ _ _
   | exact spec_l22Zero.mono _ _ _ _ _ _ _ _ _
   | exact spec_l2Name.mono _ _
   | exact LeO.none _
   | refine LeO.ite ?_ ?_
   | refine LeO.bind ?_ (fun _ => ?_)
theorem spec_l22Stage.mono : ∀ a0 a1 a2 a3 a4 a5 a6 a7 k, LeO (spec_l22Stage.f k a0 a1 a2 a3 a4 a5 a6 a7) (spec_l22Stage.f (k + 1) a0 a1 a2 a3 a4 a5 a6 a7) := by
 intro a0 a1 a2 a3 a4 a5 a6 a7 k
 obtain ⟨ih0, ih1, ih2⟩ := spec_l22Stage.mono_l k
 unfold spec_l22Stage.f
 repeat' first
   | (with_reducible exact ih0 _ _ _ _ _ _ _ _ _)
   | (with_reducible exact ih1 _ _ _ _ _ _ _ _ _ _)
   | (with_reducible exact ih2 _ _ _ _ _ _ _ _ _ _)
   | (with_reducible exact spec_GoodMatchers.mono _ _)
   | (with_reducible exact spec_GoodPattern.mono _ _)
   | (with_reducible exact spec_GoodTemplate.mono _ _)
   | (with_reducible exact spec_l15Names.mono _ _)
   | (with_reducible exact spec_l22Form.mono _ _)
   | (with_reducible exact spec_l22Text.mono _ _ _)
   | (with_reducible exact spec_l22Zero.mono _ _ _ _ _ _ _ _ _)
   | (with_reducible exact spec_l2Name.mono _ _)
   | (with_reducible exact LeO.refl _)
   | (with_reducible exact LeO.none _)
   | (with_reducible refine LeO.ite ?_ ?_)
   | (with_reducible refine LeO.bind ?_ (fun _ => ?_))
   | exact ih0 _ _ _ _ _ _ _ _ _
   | exact ih1 _ _ _ _ _ _ _ _ _ _
   | exact ih2 _ _ _ _ _ _ _ _ _ _
   | exact spec_GoodMatchers.mono _ _
   | exact spec_GoodPattern.mono _ _
   | exact spec_GoodTemplate.mono _ _
   | exact spec_l15Names.mono _ _
   | exact spec_l22Form.mono _ _
   | exact spec_l22Text.mono _ _ _
   | exact spec_l22Zero.mono _ _ _ _ _ _ _ _ _
   | exact spec_l2Name.mono _ _
   | exact LeO.none _
   | refine LeO.ite ?_ ?_
   | refine LeO.bind ?_ (fun _ => ?_)
set_option maxHeartbeats 8000000 in
set_option maxRecDepth 100000 in
theorem spec_l22Stage.calls (k : Nat) (a0_0 : Int) (a0_1 : ByteArray) (a0_2 : ByteArray) (a0_3 : Int) (a0_4 : ByteArray) (a0_5 : Int) (a0_6 : Int) (A0_7 : Option Addr) (c0_7 : Nat) (l0_7 : List ByteArray) (r : Bool) (w : World) (hr0_7 : Kd.C Kd.string w A0_7 l0_7.length l0_7) (hc0_7 : l0_7.length ≤ c0_7) (h : spec_l22Stage.f k a0_0 a0_1 a0_2 a0_3 a0_4 a0_5 a0_6 l0_7 = some r) :
  Calls Try.prog 12 #[.agg #[.int .i64 a0_0, .string a0_1, .string a0_2, .int .i64 a0_3, .string a0_4, .int .i64 a0_5, .int .i64 a0_6, .slice A0_7 l0_7.length c0_7]] w fun e w' => e = .returned (.bool r) ∧ Below w.heap.size w w' := by
 have hu42 := Try.underlying42
 have hu39 := Try.underlying39
 have HR0_7 := Aside0.mk hr0_7
 have HC0_7 := Aside0.mk hc0_7
 clear hr0_7 hc0_7
 have HB := Aside0.mk (Below.refl w.heap.size w)
 have H : ((spec_l22Zero.f k a0_0 a0_1 a0_2 a0_3 a0_4 a0_5 a0_6 l0_7).bind fun bt241 => (if a0_1.toList = bt241.2.1.toList then (if (!(a0_2.toList == bt241.2.2.1.toList) || (!(a0_3 == bt241.2.2.2.1) || (!(a0_4.toList == bt241.2.2.2.2.1.toList)))) = true then (spec_l22Stage.j0 k true a0_0 a0_1 a0_2 a0_3 a0_4 a0_5 a0_6 l0_7) else (if a0_5 = bt241.2.2.2.2.2.1 then (if a0_6 = bt241.2.2.2.2.2.2.1 then (spec_l22Stage.j0 k ((l0_7.length : Int) != (bt241.2.2.2.2.2.2.2.length : Int)) a0_0 a0_1 a0_2 a0_3 a0_4 a0_5 a0_6 l0_7) else (spec_l22Stage.j0 k true a0_0 a0_1 a0_2 a0_3 a0_4 a0_5 a0_6 l0_7)) else (spec_l22Stage.j0 k true a0_0 a0_1 a0_2 a0_3 a0_4 a0_5 a0_6 l0_7))) else (spec_l22Stage.j0 k true a0_0 a0_1 a0_2 a0_3 a0_4 a0_5 a0_6 l0_7))) = some r := h
 clear h
 replace H := Option.bind_eq_some_iff.mp H
 obtain ⟨⟨t241, t242, t243, t244, t245, t246, t247, t248⟩, A20, H⟩ := H
 replace H : (if a0_1.toList = t242.toList then (if (!(a0_2.toList == t243.toList) || (!(a0_3 == t244) || (!(a0_4.toList == t245.toList)))) = true then (spec_l22Stage.j0 k true a0_0 a0_1 a0_2 a0_3 a0_4 a0_5 a0_6 l0_7) else (if a0_5 = t246 then (if a0_6 = t247 then (spec_l22Stage.j0 k ((l0_7.length : Int) != (t248.length : Int)) a0_0 a0_1 a0_2 a0_3 a0_4 a0_5 a0_6 l0_7) else (spec_l22Stage.j0 k true a0_0 a0_1 a0_2 a0_3 a0_4 a0_5 a0_6 l0_7)) else (spec_l22Stage.j0 k true a0_0 a0_1 a0_2 a0_3 a0_4 a0_5 a0_6 l0_7))) else (spec_l22Stage.j0 k true a0_0 a0_1 a0_2 a0_3 a0_4 a0_5 a0_6 l0_7)) = some r := H
 have A2 := Aside0.mk A20
 clear A20
 have HC3 := Aside0.mk H
 clear H
 go_enter Try.func12, Try.ntmps12
 go_upto_region 2 with (first | ((with_reducible refine gate_dst (N := 1) rfl ?_); (try (refine gate_guard (by rfl) ?_; dsimp only)); refine box_event ?hg (N := 1) ?hd (cs := #[.int .i64 a0_0, .string a0_1, .string a0_2, .int .i64 a0_3, .string a0_4, .int .i64 a0_5, .int .i64 a0_6, .slice A0_7 l0_7.length c0_7]) (t := 42) ?hr ?_; (case hd => rfl); (case hg => rfl); (case hr => first | (go_simp; done) | (go_simp; rfl)); intro gb240 hg w4 hbox hb; have n0_ := Aside0.mk (below_step (by with_reducible repeat (first | exact HB.out | apply below_alloc | apply pw_below_drewN | apply below_drew1)) hb); have n1_ := Aside0.mk (hbox); have n2_ := Aside0.mk ((by rw [hg]; exact (below_size (by with_reducible repeat (first | exact HB.out | apply below_alloc | apply pw_below_drewN | apply below_drew1))) : w.heap.size ≤ gb240)); have n3_ := n2_; clear HB; have HB := n0_; have BK240 := n1_; have GW240 := n2_; have GE240 := n3_; clear n0_ n1_ n2_ n3_; clear hb hbox hg; have hcz5_0 : w4.cell? ⟨gb240, 0, none⟩ = some (.int .i64 a0_0) := (blk_cell BK240.out 0).trans rfl; have hcz5_1 : w4.cell? ⟨gb240, 1, none⟩ = some (.string a0_1) := (blk_cell BK240.out 1).trans rfl; have hcz5_2 : w4.cell? ⟨gb240, 2, none⟩ = some (.string a0_2) := (blk_cell BK240.out 2).trans rfl; have hcz5_3 : w4.cell? ⟨gb240, 3, none⟩ = some (.int .i64 a0_3) := (blk_cell BK240.out 3).trans rfl; have hcz5_4 : w4.cell? ⟨gb240, 4, none⟩ = some (.string a0_4) := (blk_cell BK240.out 4).trans rfl; have hcz5_5 : w4.cell? ⟨gb240, 5, none⟩ = some (.int .i64 a0_5) := (blk_cell BK240.out 5).trans rfl; have hcz5_6 : w4.cell? ⟨gb240, 6, none⟩ = some (.int .i64 a0_6) := (blk_cell BK240.out 6).trans rfl; have hcz5_7 : w4.cell? ⟨gb240, 7, none⟩ = some (.slice A0_7 l0_7.length c0_7) := (blk_cell BK240.out 7).trans rfl; have hfz5_0 := blk_frozen BK240.out 0; have hfz5_1 := blk_frozen BK240.out 1; have hfz5_2 := blk_frozen BK240.out 2; have hfz5_3 := blk_frozen BK240.out 3; have hfz5_4 := blk_frozen BK240.out 4; have hfz5_5 := blk_frozen BK240.out 5; have hfz5_6 := blk_frozen BK240.out 6; have hfz5_7 := blk_frozen BK240.out 7) | ((with_reducible refine gate_callee (f := 26) rfl ?_); refine goesL_ (some 8) rfl rfl Try.func26 (by kernel_rfl) rfl #[.agg #[.int .i64 a0_0, .string a0_1, .string a0_2, .int .i64 a0_3, .string a0_4, .int .i64 a0_5, .int .i64 a0_6, .slice A0_7 l0_7.length c0_7]] rfl (by (try simp only [List.map_toArray, List.map_cons, List.map_nil]); first | done | rfl) ?_; (with_reducible refine (spec_l22Zero.calls k a0_0 a0_1 a0_2 a0_3 a0_4 a0_5 a0_6 (fun k_ => k_ < w.heap.size) _ _ l0_7 t241 t242 t243 t244 t245 t246 t247 t248 _ ?side1 A2.out).mono ?_); (case side1 => exact Kd.V_mk HC0_7.out (Kd.F_below (Kd.C_F Kd.heap_string HR0_7.out) (by with_reducible repeat (first | exact HB.out | apply below_alloc | apply pw_below_drewN | apply below_drew1 | refine below_set ?_ GE240.out)))); rintro e w6 ⟨v249, rfl, ho0, hb⟩; refine ⟨_, rfl, ?_⟩; have n0_ := Aside0.mk (Kd.V_lower (Kd.V_mono (ok' := fun k_ => k_ ≠ gb240) ho0 (fun k_ hk_ => Or.elim hk_ (fun hs_ => fun e_ => Nat.not_le.2 hs_ (by rw [e_]; exact GW240.out)) (fun hn_ => (Kd.freshB (g := gb240) (by (with_reducible repeat (first | apply blk_drewN | apply blk_drew | apply blk_alloc)); exact BK240.out) k_ hn_)))) (below_size (by with_reducible repeat (first | exact HB.out | apply below_alloc | apply pw_below_drewN | apply below_drew1 | refine below_set ?_ GE240.out)))); have n1_ := Aside0.mk (blk_below (g := gb240) (by (with_reducible repeat (first | apply blk_drewN | apply blk_drew | apply blk_alloc)); exact BK240.out) hb); have n2_ := Aside0.mk (below_step (by with_reducible repeat (first | exact HB.out | apply below_alloc | apply pw_below_drewN | apply below_drew1 | refine below_set ?_ GE240.out)) hb); clear BK240; clear HB; have HO250 := n0_; have BK240 := n1_; have HB := n2_; clear n0_ n1_ n2_; (try clear hb); (try clear hb2); (try clear hk); (try clear hi); (try clear ho0)) | ((with_reducible refine gate_dst (N := 3) rfl ?_); (try (refine gate_guard (by rfl) ?_; dsimp only)); refine box_event ?hg (N := 3) ?hd (cs := #[.int .i64 0, .string ⟨#[]⟩, .string ⟨#[]⟩, .int .i64 0, .string ⟨#[]⟩, .int .i64 0, .int .i64 0, .slice none 0 0]) (t := 42) ?hr ?_; (case hd => rfl); (case hg => rfl); (case hr => first | (go_simp; done) | (go_simp; rfl)); intro gb251 hg w7 hbox hb; have n0_ := Aside0.mk (Kd.V_below (Kd.V_elderB (by (with_reducible repeat (first | apply Kd.V_alloc | apply Kd.V_drewN | apply Kd.V_drew)); exact HO250.out) gb251 (Nat.le_of_eq hg.symm)) hb); have n1_ := Aside0.mk (blk_below (g := gb240) (by (with_reducible repeat (first | apply blk_drewN | apply blk_drew | apply blk_alloc)); exact BK240.out) hb); have n2_ := Aside0.mk (below_step (by with_reducible repeat (first | exact HB.out | apply below_alloc | apply pw_below_drewN | apply below_drew1 | refine below_set ?_ GE240.out)) hb); have n3_ := Aside0.mk (hbox); have n4_ := Aside0.mk ((by rw [hg]; exact (below_size (by with_reducible repeat (first | exact HB.out | apply below_alloc | apply pw_below_drewN | apply below_drew1 | refine below_set ?_ GE240.out))) : w.heap.size ≤ gb251)); have n5_ := n4_; have n6_ := Aside0.mk ((by rw [hg]; exact Nat.ne_of_lt (blk_lt (g := gb240) (by (with_reducible repeat (first | apply blk_drewN | apply blk_drew | apply blk_alloc)); exact BK240.out)) : gb240 ≠ gb251)); have n7_ := Aside0.mk ((by rw [hg]; exact Nat.ne_of_gt (blk_lt (g := gb240) (by (with_reducible repeat (first | apply blk_drewN | apply blk_drew | apply blk_alloc)); exact BK240.out)) : gb251 ≠ gb240)); clear HO250; clear BK240; clear HB; have HO250 := n0_; have BK240 := n1_; have HB := n2_; have BK251 := n3_; have GW251 := n4_; have GE251 := n5_; have NB240_251 := n6_; have NB251_240 := n7_; clear n0_ n1_ n2_ n3_ n4_ n5_ n6_ n7_; clear hb hbox hg; have hnb8 := NB251_240.out; have hnc8 := NB240_251.out; have hcz9_0 : w7.cell? ⟨gb251, 0, none⟩ = some (.int .i64 0) := (blk_cell BK251.out 0).trans rfl; have hcz9_1 : w7.cell? ⟨gb251, 1, none⟩ = some (.string ⟨#[]⟩) := (blk_cell BK251.out 1).trans rfl; have hcz9_2 : w7.cell? ⟨gb251, 2, none⟩ = some (.string ⟨#[]⟩) := (blk_cell BK251.out 2).trans rfl; have hcz9_3 : w7.cell? ⟨gb251, 3, none⟩ = some (.int .i64 0) := (blk_cell BK251.out 3).trans rfl; have hcz9_4 : w7.cell? ⟨gb251, 4, none⟩ = some (.string ⟨#[]⟩) := (blk_cell BK251.out 4).trans rfl; have hcz9_5 : w7.cell? ⟨gb251, 5, none⟩ = some (.int .i64 0) := (blk_cell BK251.out 5).trans rfl; have hcz9_6 : w7.cell? ⟨gb251, 6, none⟩ = some (.int .i64 0) := (blk_cell BK251.out 6).trans rfl; have hcz9_7 : w7.cell? ⟨gb251, 7, none⟩ = some (.slice none 0 0) := (blk_cell BK251.out 7).trans rfl; have hfz9_0 := blk_frozen BK251.out 0; have hfz9_1 := blk_frozen BK251.out 1; have hfz9_2 := blk_frozen BK251.out 2; have hfz9_3 := blk_frozen BK251.out 3; have hfz9_4 := blk_frozen BK251.out 4; have hfz9_5 := blk_frozen BK251.out 5; have hfz9_6 := blk_frozen BK251.out 6; have hfz9_7 := blk_frozen BK251.out 7; obtain ⟨Ao10, co10, eo10⟩ := Kd.V_slice HO250.out; subst eo10))
 (try simp only [Act.put, List.setIfInBounds_toArray, List.set_cons_zero, List.set_cons_succ])
 go_cut [43] (fun v43 wc => ∃ (kq : Nat) (x43_2 : Bool), v43 = .bool x43_2 ∧ Aside0 (spec_l22Stage.j0 kq x43_2 a0_0 a0_1 a0_2 a0_3 a0_4 a0_5 a0_6 l0_7 = some r) ∧ Aside0 (kq ≤ k) ∧ Aside0 (Kd.V Kd.string 9 wc w.heap.size (fun k_ => k_ ≠ gb240 ∧ k_ ≠ gb251) (.slice Ao10 t248.length co10) t248) ∧ Aside0 (wc.heap[gb240]? = some (.cells #[.int .i64 a0_0, .string a0_1, .string a0_2, .int .i64 a0_3, .string a0_4, .int .i64 a0_5, .int .i64 a0_6, (.slice A0_7 l0_7.length c0_7)] 42 (0, 0))) ∧ Aside0 (wc.heap[gb251]? = some (.cells #[.int .i64 t241, .string t242, .string t243, .int .i64 t244, .string t245, .int .i64 t246, .int .i64 t247, (.slice Ao10 t248.length co10)] 42 (0, 0))) ∧ Aside0 (Below w.heap.size w wc))
 case first =>
  have H := HC3.out
  clear HC3
  by_cases c11 : a0_1.toList = t242.toList
  ·rw [if_pos c11] at H
   have c11b0 : (a0_1.toList == t242.toList) = true := beq_iff_eq.mpr c11
   have c11b1 : (a0_1.toList != t242.toList) = false := bne_eq_false_iff_eq.mpr c11
   clear c11
   (first | rw [c11b0] | (simp only [i64_w, i32_w]; rw [c11b0]) | skip)
   by_cases c12 : (!(a0_2.toList == t243.toList) || (!(a0_3 == t244) || (!(a0_4.toList == t245.toList)))) = true
   ·rw [if_pos c12] at H
    have c12b0 : (!(a0_2.toList == t243.toList) || (!(a0_3 == t244) || (!(a0_4.toList == t245.toList)))) = true := c12
    clear c12
    have H' := Aside0.mk H
    clear H
    have hnb13 := NB240_251.out
    have hnc13 := NB251_240.out
    have hcz14_0 : w7.cell? ⟨gb240, 0, none⟩ = some (.int .i64 a0_0) := (blk_cell BK240.out 0).trans rfl
    have hcz14_1 : w7.cell? ⟨gb240, 1, none⟩ = some (.string a0_1) := (blk_cell BK240.out 1).trans rfl
    have hcz14_2 : w7.cell? ⟨gb240, 2, none⟩ = some (.string a0_2) := (blk_cell BK240.out 2).trans rfl
    have hcz14_3 : w7.cell? ⟨gb240, 3, none⟩ = some (.int .i64 a0_3) := (blk_cell BK240.out 3).trans rfl
    have hcz14_4 : w7.cell? ⟨gb240, 4, none⟩ = some (.string a0_4) := (blk_cell BK240.out 4).trans rfl
    have hcz14_5 : w7.cell? ⟨gb240, 5, none⟩ = some (.int .i64 a0_5) := (blk_cell BK240.out 5).trans rfl
    have hcz14_6 : w7.cell? ⟨gb240, 6, none⟩ = some (.int .i64 a0_6) := (blk_cell BK240.out 6).trans rfl
    have hcz14_7 : w7.cell? ⟨gb240, 7, none⟩ = some (.slice A0_7 l0_7.length c0_7) := (blk_cell BK240.out 7).trans rfl
    have hfz14_0 := blk_frozen BK240.out 0
    have hfz14_1 := blk_frozen BK240.out 1
    have hfz14_2 := blk_frozen BK240.out 2
    have hfz14_3 := blk_frozen BK240.out 3
    have hfz14_4 := blk_frozen BK240.out 4
    have hfz14_5 := blk_frozen BK240.out 5
    have hfz14_6 := blk_frozen BK240.out 6
    have hfz14_7 := blk_frozen BK240.out 7
    have hcz15_0 : w7.cell? ⟨gb251, 0, none⟩ = some (.int .i64 0) := (blk_cell BK251.out 0).trans rfl
    have hcz15_1 : w7.cell? ⟨gb251, 1, none⟩ = some (.string ⟨#[]⟩) := (blk_cell BK251.out 1).trans rfl
    have hcz15_2 : w7.cell? ⟨gb251, 2, none⟩ = some (.string ⟨#[]⟩) := (blk_cell BK251.out 2).trans rfl
    have hcz15_3 : w7.cell? ⟨gb251, 3, none⟩ = some (.int .i64 0) := (blk_cell BK251.out 3).trans rfl
    have hcz15_4 : w7.cell? ⟨gb251, 4, none⟩ = some (.string ⟨#[]⟩) := (blk_cell BK251.out 4).trans rfl
    have hcz15_5 : w7.cell? ⟨gb251, 5, none⟩ = some (.int .i64 0) := (blk_cell BK251.out 5).trans rfl
    have hcz15_6 : w7.cell? ⟨gb251, 6, none⟩ = some (.int .i64 0) := (blk_cell BK251.out 6).trans rfl
    have hcz15_7 : w7.cell? ⟨gb251, 7, none⟩ = some (.slice none 0 0) := (blk_cell BK251.out 7).trans rfl
    have hfz15_0 := blk_frozen BK251.out 0
    have hfz15_1 := blk_frozen BK251.out 1
    have hfz15_2 := blk_frozen BK251.out 2
    have hfz15_3 := blk_frozen BK251.out 3
    have hfz15_4 := blk_frozen BK251.out 4
    have hfz15_5 := blk_frozen BK251.out 5
    have hfz15_6 := blk_frozen BK251.out 6
    have hfz15_7 := blk_frozen BK251.out 7
    go_wp2
    go_meet
    case rel => exact ⟨_, (true), (by first | rfl | (simp; done) | (simp [*]; done)), H', ⟨by first | omega | exact Nat.le_refl _⟩, ⟨by (with_reducible repeat (first | apply Kd.V_alloc | apply Kd.V_drewN | apply Kd.V_drew)); exact Kd.V_mono (Kd.V_far (p := ⟨gb251, 7, none⟩) (Kd.V_far (p := ⟨gb251, 6, none⟩) (Kd.V_far (p := ⟨gb251, 5, none⟩) (Kd.V_far (p := ⟨gb251, 4, none⟩) (Kd.V_far (p := ⟨gb251, 3, none⟩) (Kd.V_far (p := ⟨gb251, 2, none⟩) (Kd.V_far (p := ⟨gb251, 1, none⟩) (Kd.V_far (p := ⟨gb251, 0, none⟩) (Kd.V_mono HO250.out (fun k_ hk => (⟨hk, hk.2⟩ : _ ∧ k_ ≠ gb251))) (fun _ hk => hk.2) (.int .i64 t241)) (fun _ hk => hk.2) (.string t242)) (fun _ hk => hk.2) (.string t243)) (fun _ hk => hk.2) (.int .i64 t244)) (fun _ hk => hk.2) (.string t245)) (fun _ hk => hk.2) (.int .i64 t246)) (fun _ hk => hk.2) (.int .i64 t247)) (fun _ hk => hk.2) (.slice Ao10 t248.length co10)) (fun _ hk => ⟨hk.1.1, hk.1.2⟩)⟩, ⟨by (with_reducible repeat (first | apply blk_drewN | apply blk_drew | apply blk_alloc)); refine blk_far ?_ NB240_251.out _; (with_reducible repeat (first | apply blk_drewN | apply blk_drew | apply blk_alloc)); refine blk_far ?_ NB240_251.out _; (with_reducible repeat (first | apply blk_drewN | apply blk_drew | apply blk_alloc)); refine blk_far ?_ NB240_251.out _; (with_reducible repeat (first | apply blk_drewN | apply blk_drew | apply blk_alloc)); refine blk_far ?_ NB240_251.out _; (with_reducible repeat (first | apply blk_drewN | apply blk_drew | apply blk_alloc)); refine blk_far ?_ NB240_251.out _; (with_reducible repeat (first | apply blk_drewN | apply blk_drew | apply blk_alloc)); refine blk_far ?_ NB240_251.out _; (with_reducible repeat (first | apply blk_drewN | apply blk_drew | apply blk_alloc)); refine blk_far ?_ NB240_251.out _; (with_reducible repeat (first | apply blk_drewN | apply blk_drew | apply blk_alloc)); refine blk_far ?_ NB240_251.out _; (with_reducible repeat (first | apply blk_drewN | apply blk_drew | apply blk_alloc)); exact BK240.out⟩, ⟨by (with_reducible repeat (first | apply blk_drewN | apply blk_drew | apply blk_alloc)); refine blk_put (cs := #[.int .i64 t241, .string t242, .string t243, .int .i64 t244, .string t245, .int .i64 t246, .int .i64 t247, .slice none 0 0]) ?_ 7 _ rfl; (with_reducible repeat (first | apply blk_drewN | apply blk_drew | apply blk_alloc)); refine blk_put (cs := #[.int .i64 t241, .string t242, .string t243, .int .i64 t244, .string t245, .int .i64 t246, .int .i64 0, .slice none 0 0]) ?_ 6 _ rfl; (with_reducible repeat (first | apply blk_drewN | apply blk_drew | apply blk_alloc)); refine blk_put (cs := #[.int .i64 t241, .string t242, .string t243, .int .i64 t244, .string t245, .int .i64 0, .int .i64 0, .slice none 0 0]) ?_ 5 _ rfl; (with_reducible repeat (first | apply blk_drewN | apply blk_drew | apply blk_alloc)); refine blk_put (cs := #[.int .i64 t241, .string t242, .string t243, .int .i64 t244, .string ⟨#[]⟩, .int .i64 0, .int .i64 0, .slice none 0 0]) ?_ 4 _ rfl; (with_reducible repeat (first | apply blk_drewN | apply blk_drew | apply blk_alloc)); refine blk_put (cs := #[.int .i64 t241, .string t242, .string t243, .int .i64 0, .string ⟨#[]⟩, .int .i64 0, .int .i64 0, .slice none 0 0]) ?_ 3 _ rfl; (with_reducible repeat (first | apply blk_drewN | apply blk_drew | apply blk_alloc)); refine blk_put (cs := #[.int .i64 t241, .string t242, .string ⟨#[]⟩, .int .i64 0, .string ⟨#[]⟩, .int .i64 0, .int .i64 0, .slice none 0 0]) ?_ 2 _ rfl; (with_reducible repeat (first | apply blk_drewN | apply blk_drew | apply blk_alloc)); refine blk_put (cs := #[.int .i64 t241, .string ⟨#[]⟩, .string ⟨#[]⟩, .int .i64 0, .string ⟨#[]⟩, .int .i64 0, .int .i64 0, .slice none 0 0]) ?_ 1 _ rfl; (with_reducible repeat (first | apply blk_drewN | apply blk_drew | apply blk_alloc)); refine blk_put (cs := #[.int .i64 0, .string ⟨#[]⟩, .string ⟨#[]⟩, .int .i64 0, .string ⟨#[]⟩, .int .i64 0, .int .i64 0, .slice none 0 0]) ?_ 0 _ rfl; (with_reducible repeat (first | apply blk_drewN | apply blk_drew | apply blk_alloc)); exact BK251.out⟩, ⟨by with_reducible repeat (first | exact HB.out | apply below_alloc | apply pw_below_drewN | apply below_drew1 | refine below_set ?_ GE240.out | refine below_set ?_ GE251.out)⟩⟩
   ·rw [if_neg c12] at H
    have c12b0 : (!(a0_2.toList == t243.toList) || (!(a0_3 == t244) || (!(a0_4.toList == t245.toList)))) = false := by simpa using c12
    clear c12
    by_cases c16 : a0_5 = t246
    ·rw [if_pos c16] at H
     have c16b0 : (a0_5 == t246) = true := beq_iff_eq.mpr c16
     have c16b1 : (a0_5 != t246) = false := bne_eq_false_iff_eq.mpr c16
     clear c16
     by_cases c17 : a0_6 = t247
     ·rw [if_pos c17] at H
      have c17b0 : (a0_6 == t247) = true := beq_iff_eq.mpr c17
      have c17b1 : (a0_6 != t247) = false := bne_eq_false_iff_eq.mpr c17
      clear c17
      have H' := Aside0.mk H
      clear H
      have hnb18 := NB240_251.out
      have hnc18 := NB251_240.out
      have hcz19_0 : w7.cell? ⟨gb240, 0, none⟩ = some (.int .i64 a0_0) := (blk_cell BK240.out 0).trans rfl
      have hcz19_1 : w7.cell? ⟨gb240, 1, none⟩ = some (.string a0_1) := (blk_cell BK240.out 1).trans rfl
      have hcz19_2 : w7.cell? ⟨gb240, 2, none⟩ = some (.string a0_2) := (blk_cell BK240.out 2).trans rfl
      have hcz19_3 : w7.cell? ⟨gb240, 3, none⟩ = some (.int .i64 a0_3) := (blk_cell BK240.out 3).trans rfl
      have hcz19_4 : w7.cell? ⟨gb240, 4, none⟩ = some (.string a0_4) := (blk_cell BK240.out 4).trans rfl
      have hcz19_5 : w7.cell? ⟨gb240, 5, none⟩ = some (.int .i64 a0_5) := (blk_cell BK240.out 5).trans rfl
      have hcz19_6 : w7.cell? ⟨gb240, 6, none⟩ = some (.int .i64 a0_6) := (blk_cell BK240.out 6).trans rfl
      have hcz19_7 : w7.cell? ⟨gb240, 7, none⟩ = some (.slice A0_7 l0_7.length c0_7) := (blk_cell BK240.out 7).trans rfl
      have hfz19_0 := blk_frozen BK240.out 0
      have hfz19_1 := blk_frozen BK240.out 1
      have hfz19_2 := blk_frozen BK240.out 2
      have hfz19_3 := blk_frozen BK240.out 3
      have hfz19_4 := blk_frozen BK240.out 4
      have hfz19_5 := blk_frozen BK240.out 5
      have hfz19_6 := blk_frozen BK240.out 6
      have hfz19_7 := blk_frozen BK240.out 7
      have hcz20_0 : w7.cell? ⟨gb251, 0, none⟩ = some (.int .i64 0) := (blk_cell BK251.out 0).trans rfl
      have hcz20_1 : w7.cell? ⟨gb251, 1, none⟩ = some (.string ⟨#[]⟩) := (blk_cell BK251.out 1).trans rfl
      have hcz20_2 : w7.cell? ⟨gb251, 2, none⟩ = some (.string ⟨#[]⟩) := (blk_cell BK251.out 2).trans rfl
      have hcz20_3 : w7.cell? ⟨gb251, 3, none⟩ = some (.int .i64 0) := (blk_cell BK251.out 3).trans rfl
      have hcz20_4 : w7.cell? ⟨gb251, 4, none⟩ = some (.string ⟨#[]⟩) := (blk_cell BK251.out 4).trans rfl
      have hcz20_5 : w7.cell? ⟨gb251, 5, none⟩ = some (.int .i64 0) := (blk_cell BK251.out 5).trans rfl
      have hcz20_6 : w7.cell? ⟨gb251, 6, none⟩ = some (.int .i64 0) := (blk_cell BK251.out 6).trans rfl
      have hcz20_7 : w7.cell? ⟨gb251, 7, none⟩ = some (.slice none 0 0) := (blk_cell BK251.out 7).trans rfl
      have hfz20_0 := blk_frozen BK251.out 0
      have hfz20_1 := blk_frozen BK251.out 1
      have hfz20_2 := blk_frozen BK251.out 2
      have hfz20_3 := blk_frozen BK251.out 3
      have hfz20_4 := blk_frozen BK251.out 4
      have hfz20_5 := blk_frozen BK251.out 5
      have hfz20_6 := blk_frozen BK251.out 6
      have hfz20_7 := blk_frozen BK251.out 7
      go_wp2
      go_meet
      case rel => exact ⟨_, (((l0_7.length : Int) != (t248.length : Int))), (by first | rfl | (simp; done) | (simp [*]; done)), H', ⟨by first | omega | exact Nat.le_refl _⟩, ⟨by (with_reducible repeat (first | apply Kd.V_alloc | apply Kd.V_drewN | apply Kd.V_drew)); exact Kd.V_mono (Kd.V_far (p := ⟨gb251, 7, none⟩) (Kd.V_far (p := ⟨gb251, 6, none⟩) (Kd.V_far (p := ⟨gb251, 5, none⟩) (Kd.V_far (p := ⟨gb251, 4, none⟩) (Kd.V_far (p := ⟨gb251, 3, none⟩) (Kd.V_far (p := ⟨gb251, 2, none⟩) (Kd.V_far (p := ⟨gb251, 1, none⟩) (Kd.V_far (p := ⟨gb251, 0, none⟩) (Kd.V_mono HO250.out (fun k_ hk => (⟨hk, hk.2⟩ : _ ∧ k_ ≠ gb251))) (fun _ hk => hk.2) (.int .i64 t241)) (fun _ hk => hk.2) (.string t242)) (fun _ hk => hk.2) (.string t243)) (fun _ hk => hk.2) (.int .i64 t244)) (fun _ hk => hk.2) (.string t245)) (fun _ hk => hk.2) (.int .i64 t246)) (fun _ hk => hk.2) (.int .i64 t247)) (fun _ hk => hk.2) (.slice Ao10 t248.length co10)) (fun _ hk => ⟨hk.1.1, hk.1.2⟩)⟩, ⟨by (with_reducible repeat (first | apply blk_drewN | apply blk_drew | apply blk_alloc)); refine blk_far ?_ NB240_251.out _; (with_reducible repeat (first | apply blk_drewN | apply blk_drew | apply blk_alloc)); refine blk_far ?_ NB240_251.out _; (with_reducible repeat (first | apply blk_drewN | apply blk_drew | apply blk_alloc)); refine blk_far ?_ NB240_251.out _; (with_reducible repeat (first | apply blk_drewN | apply blk_drew | apply blk_alloc)); refine blk_far ?_ NB240_251.out _; (with_reducible repeat (first | apply blk_drewN | apply blk_drew | apply blk_alloc)); refine blk_far ?_ NB240_251.out _; (with_reducible repeat (first | apply blk_drewN | apply blk_drew | apply blk_alloc)); refine blk_far ?_ NB240_251.out _; (with_reducible repeat (first | apply blk_drewN | apply blk_drew | apply blk_alloc)); refine blk_far ?_ NB240_251.out _; (with_reducible repeat (first | apply blk_drewN | apply blk_drew | apply blk_alloc)); refine blk_far ?_ NB240_251.out _; (with_reducible repeat (first | apply blk_drewN | apply blk_drew | apply blk_alloc)); exact BK240.out⟩, ⟨by (with_reducible repeat (first | apply blk_drewN | apply blk_drew | apply blk_alloc)); refine blk_put (cs := #[.int .i64 t241, .string t242, .string t243, .int .i64 t244, .string t245, .int .i64 t246, .int .i64 t247, .slice none 0 0]) ?_ 7 _ rfl; (with_reducible repeat (first | apply blk_drewN | apply blk_drew | apply blk_alloc)); refine blk_put (cs := #[.int .i64 t241, .string t242, .string t243, .int .i64 t244, .string t245, .int .i64 t246, .int .i64 0, .slice none 0 0]) ?_ 6 _ rfl; (with_reducible repeat (first | apply blk_drewN | apply blk_drew | apply blk_alloc)); refine blk_put (cs := #[.int .i64 t241, .string t242, .string t243, .int .i64 t244, .string t245, .int .i64 0, .int .i64 0, .slice none 0 0]) ?_ 5 _ rfl; (with_reducible repeat (first | apply blk_drewN | apply blk_drew | apply blk_alloc)); refine blk_put (cs := #[.int .i64 t241, .string t242, .string t243, .int .i64 t244, .string ⟨#[]⟩, .int .i64 0, .int .i64 0, .slice none 0 0]) ?_ 4 _ rfl; (with_reducible repeat (first | apply blk_drewN | apply blk_drew | apply blk_alloc)); refine blk_put (cs := #[.int .i64 t241, .string t242, .string t243, .int .i64 0, .string ⟨#[]⟩, .int .i64 0, .int .i64 0, .slice none 0 0]) ?_ 3 _ rfl; (with_reducible repeat (first | apply blk_drewN | apply blk_drew | apply blk_alloc)); refine blk_put (cs := #[.int .i64 t241, .string t242, .string ⟨#[]⟩, .int .i64 0, .string ⟨#[]⟩, .int .i64 0, .int .i64 0, .slice none 0 0]) ?_ 2 _ rfl; (with_reducible repeat (first | apply blk_drewN | apply blk_drew | apply blk_alloc)); refine blk_put (cs := #[.int .i64 t241, .string ⟨#[]⟩, .string ⟨#[]⟩, .int .i64 0, .string ⟨#[]⟩, .int .i64 0, .int .i64 0, .slice none 0 0]) ?_ 1 _ rfl; (with_reducible repeat (first | apply blk_drewN | apply blk_drew | apply blk_alloc)); refine blk_put (cs := #[.int .i64 0, .string ⟨#[]⟩, .string ⟨#[]⟩, .int .i64 0, .string ⟨#[]⟩, .int .i64 0, .int .i64 0, .slice none 0 0]) ?_ 0 _ rfl; (with_reducible repeat (first | apply blk_drewN | apply blk_drew | apply blk_alloc)); exact BK251.out⟩, ⟨by with_reducible repeat (first | exact HB.out | apply below_alloc | apply pw_below_drewN | apply below_drew1 | refine below_set ?_ GE240.out | refine below_set ?_ GE251.out)⟩⟩
     ·rw [if_neg c17] at H
      have c17b0 : (a0_6 == t247) = false := beq_eq_false_iff_ne.mpr c17
      have c17b1 : (a0_6 != t247) = true := bne_iff_ne.mpr c17
      have H' := Aside0.mk H
      clear H
      have hnb21 := NB240_251.out
      have hnc21 := NB251_240.out
      have hcz22_0 : w7.cell? ⟨gb240, 0, none⟩ = some (.int .i64 a0_0) := (blk_cell BK240.out 0).trans rfl
      have hcz22_1 : w7.cell? ⟨gb240, 1, none⟩ = some (.string a0_1) := (blk_cell BK240.out 1).trans rfl
      have hcz22_2 : w7.cell? ⟨gb240, 2, none⟩ = some (.string a0_2) := (blk_cell BK240.out 2).trans rfl
      have hcz22_3 : w7.cell? ⟨gb240, 3, none⟩ = some (.int .i64 a0_3) := (blk_cell BK240.out 3).trans rfl
      have hcz22_4 : w7.cell? ⟨gb240, 4, none⟩ = some (.string a0_4) := (blk_cell BK240.out 4).trans rfl
      have hcz22_5 : w7.cell? ⟨gb240, 5, none⟩ = some (.int .i64 a0_5) := (blk_cell BK240.out 5).trans rfl
      have hcz22_6 : w7.cell? ⟨gb240, 6, none⟩ = some (.int .i64 a0_6) := (blk_cell BK240.out 6).trans rfl
      have hcz22_7 : w7.cell? ⟨gb240, 7, none⟩ = some (.slice A0_7 l0_7.length c0_7) := (blk_cell BK240.out 7).trans rfl
      have hfz22_0 := blk_frozen BK240.out 0
      have hfz22_1 := blk_frozen BK240.out 1
      have hfz22_2 := blk_frozen BK240.out 2
      have hfz22_3 := blk_frozen BK240.out 3
      have hfz22_4 := blk_frozen BK240.out 4
      have hfz22_5 := blk_frozen BK240.out 5
      have hfz22_6 := blk_frozen BK240.out 6
      have hfz22_7 := blk_frozen BK240.out 7
      have hcz23_0 : w7.cell? ⟨gb251, 0, none⟩ = some (.int .i64 0) := (blk_cell BK251.out 0).trans rfl
      have hcz23_1 : w7.cell? ⟨gb251, 1, none⟩ = some (.string ⟨#[]⟩) := (blk_cell BK251.out 1).trans rfl
      have hcz23_2 : w7.cell? ⟨gb251, 2, none⟩ = some (.string ⟨#[]⟩) := (blk_cell BK251.out 2).trans rfl
      have hcz23_3 : w7.cell? ⟨gb251, 3, none⟩ = some (.int .i64 0) := (blk_cell BK251.out 3).trans rfl
      have hcz23_4 : w7.cell? ⟨gb251, 4, none⟩ = some (.string ⟨#[]⟩) := (blk_cell BK251.out 4).trans rfl
      have hcz23_5 : w7.cell? ⟨gb251, 5, none⟩ = some (.int .i64 0) := (blk_cell BK251.out 5).trans rfl
      have hcz23_6 : w7.cell? ⟨gb251, 6, none⟩ = some (.int .i64 0) := (blk_cell BK251.out 6).trans rfl
      have hcz23_7 : w7.cell? ⟨gb251, 7, none⟩ = some (.slice none 0 0) := (blk_cell BK251.out 7).trans rfl
      have hfz23_0 := blk_frozen BK251.out 0
      have hfz23_1 := blk_frozen BK251.out 1
      have hfz23_2 := blk_frozen BK251.out 2
      have hfz23_3 := blk_frozen BK251.out 3
      have hfz23_4 := blk_frozen BK251.out 4
      have hfz23_5 := blk_frozen BK251.out 5
      have hfz23_6 := blk_frozen BK251.out 6
      have hfz23_7 := blk_frozen BK251.out 7
      go_wp2
      go_meet
      case rel => exact ⟨_, (true), (by first | rfl | (simp; done) | (simp [*]; done)), H', ⟨by first | omega | exact Nat.le_refl _⟩, ⟨by (with_reducible repeat (first | apply Kd.V_alloc | apply Kd.V_drewN | apply Kd.V_drew)); exact Kd.V_mono (Kd.V_far (p := ⟨gb251, 7, none⟩) (Kd.V_far (p := ⟨gb251, 6, none⟩) (Kd.V_far (p := ⟨gb251, 5, none⟩) (Kd.V_far (p := ⟨gb251, 4, none⟩) (Kd.V_far (p := ⟨gb251, 3, none⟩) (Kd.V_far (p := ⟨gb251, 2, none⟩) (Kd.V_far (p := ⟨gb251, 1, none⟩) (Kd.V_far (p := ⟨gb251, 0, none⟩) (Kd.V_mono HO250.out (fun k_ hk => (⟨hk, hk.2⟩ : _ ∧ k_ ≠ gb251))) (fun _ hk => hk.2) (.int .i64 t241)) (fun _ hk => hk.2) (.string t242)) (fun _ hk => hk.2) (.string t243)) (fun _ hk => hk.2) (.int .i64 t244)) (fun _ hk => hk.2) (.string t245)) (fun _ hk => hk.2) (.int .i64 t246)) (fun _ hk => hk.2) (.int .i64 t247)) (fun _ hk => hk.2) (.slice Ao10 t248.length co10)) (fun _ hk => ⟨hk.1.1, hk.1.2⟩)⟩, ⟨by (with_reducible repeat (first | apply blk_drewN | apply blk_drew | apply blk_alloc)); refine blk_far ?_ NB240_251.out _; (with_reducible repeat (first | apply blk_drewN | apply blk_drew | apply blk_alloc)); refine blk_far ?_ NB240_251.out _; (with_reducible repeat (first | apply blk_drewN | apply blk_drew | apply blk_alloc)); refine blk_far ?_ NB240_251.out _; (with_reducible repeat (first | apply blk_drewN | apply blk_drew | apply blk_alloc)); refine blk_far ?_ NB240_251.out _; (with_reducible repeat (first | apply blk_drewN | apply blk_drew | apply blk_alloc)); refine blk_far ?_ NB240_251.out _; (with_reducible repeat (first | apply blk_drewN | apply blk_drew | apply blk_alloc)); refine blk_far ?_ NB240_251.out _; (with_reducible repeat (first | apply blk_drewN | apply blk_drew | apply blk_alloc)); refine blk_far ?_ NB240_251.out _; (with_reducible repeat (first | apply blk_drewN | apply blk_drew | apply blk_alloc)); refine blk_far ?_ NB240_251.out _; (with_reducible repeat (first | apply blk_drewN | apply blk_drew | apply blk_alloc)); exact BK240.out⟩, ⟨by (with_reducible repeat (first | apply blk_drewN | apply blk_drew | apply blk_alloc)); refine blk_put (cs := #[.int .i64 t241, .string t242, .string t243, .int .i64 t244, .string t245, .int .i64 t246, .int .i64 t247, .slice none 0 0]) ?_ 7 _ rfl; (with_reducible repeat (first | apply blk_drewN | apply blk_drew | apply blk_alloc)); refine blk_put (cs := #[.int .i64 t241, .string t242, .string t243, .int .i64 t244, .string t245, .int .i64 t246, .int .i64 0, .slice none 0 0]) ?_ 6 _ rfl; (with_reducible repeat (first | apply blk_drewN | apply blk_drew | apply blk_alloc)); refine blk_put (cs := #[.int .i64 t241, .string t242, .string t243, .int .i64 t244, .string t245, .int .i64 0, .int .i64 0, .slice none 0 0]) ?_ 5 _ rfl; (with_reducible repeat (first | apply blk_drewN | apply blk_drew | apply blk_alloc)); refine blk_put (cs := #[.int .i64 t241, .string t242, .string t243, .int .i64 t244, .string ⟨#[]⟩, .int .i64 0, .int .i64 0, .slice none 0 0]) ?_ 4 _ rfl; (with_reducible repeat (first | apply blk_drewN | apply blk_drew | apply blk_alloc)); refine blk_put (cs := #[.int .i64 t241, .string t242, .string t243, .int .i64 0, .string ⟨#[]⟩, .int .i64 0, .int .i64 0, .slice none 0 0]) ?_ 3 _ rfl; (with_reducible repeat (first | apply blk_drewN | apply blk_drew | apply blk_alloc)); refine blk_put (cs := #[.int .i64 t241, .string t242, .string ⟨#[]⟩, .int .i64 0, .string ⟨#[]⟩, .int .i64 0, .int .i64 0, .slice none 0 0]) ?_ 2 _ rfl; (with_reducible repeat (first | apply blk_drewN | apply blk_drew | apply blk_alloc)); refine blk_put (cs := #[.int .i64 t241, .string ⟨#[]⟩, .string ⟨#[]⟩, .int .i64 0, .string ⟨#[]⟩, .int .i64 0, .int .i64 0, .slice none 0 0]) ?_ 1 _ rfl; (with_reducible repeat (first | apply blk_drewN | apply blk_drew | apply blk_alloc)); refine blk_put (cs := #[.int .i64 0, .string ⟨#[]⟩, .string ⟨#[]⟩, .int .i64 0, .string ⟨#[]⟩, .int .i64 0, .int .i64 0, .slice none 0 0]) ?_ 0 _ rfl; (with_reducible repeat (first | apply blk_drewN | apply blk_drew | apply blk_alloc)); exact BK251.out⟩, ⟨by with_reducible repeat (first | exact HB.out | apply below_alloc | apply pw_below_drewN | apply below_drew1 | refine below_set ?_ GE240.out | refine below_set ?_ GE251.out)⟩⟩
    ·rw [if_neg c16] at H
     have c16b0 : (a0_5 == t246) = false := beq_eq_false_iff_ne.mpr c16
     have c16b1 : (a0_5 != t246) = true := bne_iff_ne.mpr c16
     have H' := Aside0.mk H
     clear H
     have hnb24 := NB240_251.out
     have hnc24 := NB251_240.out
     have hcz25_0 : w7.cell? ⟨gb240, 0, none⟩ = some (.int .i64 a0_0) := (blk_cell BK240.out 0).trans rfl
     have hcz25_1 : w7.cell? ⟨gb240, 1, none⟩ = some (.string a0_1) := (blk_cell BK240.out 1).trans rfl
     have hcz25_2 : w7.cell? ⟨gb240, 2, none⟩ = some (.string a0_2) := (blk_cell BK240.out 2).trans rfl
     have hcz25_3 : w7.cell? ⟨gb240, 3, none⟩ = some (.int .i64 a0_3) := (blk_cell BK240.out 3).trans rfl
     have hcz25_4 : w7.cell? ⟨gb240, 4, none⟩ = some (.string a0_4) := (blk_cell BK240.out 4).trans rfl
     have hcz25_5 : w7.cell? ⟨gb240, 5, none⟩ = some (.int .i64 a0_5) := (blk_cell BK240.out 5).trans rfl
     have hcz25_6 : w7.cell? ⟨gb240, 6, none⟩ = some (.int .i64 a0_6) := (blk_cell BK240.out 6).trans rfl
     have hcz25_7 : w7.cell? ⟨gb240, 7, none⟩ = some (.slice A0_7 l0_7.length c0_7) := (blk_cell BK240.out 7).trans rfl
     have hfz25_0 := blk_frozen BK240.out 0
     have hfz25_1 := blk_frozen BK240.out 1
     have hfz25_2 := blk_frozen BK240.out 2
     have hfz25_3 := blk_frozen BK240.out 3
     have hfz25_4 := blk_frozen BK240.out 4
     have hfz25_5 := blk_frozen BK240.out 5
     have hfz25_6 := blk_frozen BK240.out 6
     have hfz25_7 := blk_frozen BK240.out 7
     have hcz26_0 : w7.cell? ⟨gb251, 0, none⟩ = some (.int .i64 0) := (blk_cell BK251.out 0).trans rfl
     have hcz26_1 : w7.cell? ⟨gb251, 1, none⟩ = some (.string ⟨#[]⟩) := (blk_cell BK251.out 1).trans rfl
     have hcz26_2 : w7.cell? ⟨gb251, 2, none⟩ = some (.string ⟨#[]⟩) := (blk_cell BK251.out 2).trans rfl
     have hcz26_3 : w7.cell? ⟨gb251, 3, none⟩ = some (.int .i64 0) := (blk_cell BK251.out 3).trans rfl
     have hcz26_4 : w7.cell? ⟨gb251, 4, none⟩ = some (.string ⟨#[]⟩) := (blk_cell BK251.out 4).trans rfl
     have hcz26_5 : w7.cell? ⟨gb251, 5, none⟩ = some (.int .i64 0) := (blk_cell BK251.out 5).trans rfl
     have hcz26_6 : w7.cell? ⟨gb251, 6, none⟩ = some (.int .i64 0) := (blk_cell BK251.out 6).trans rfl
     have hcz26_7 : w7.cell? ⟨gb251, 7, none⟩ = some (.slice none 0 0) := (blk_cell BK251.out 7).trans rfl
     have hfz26_0 := blk_frozen BK251.out 0
     have hfz26_1 := blk_frozen BK251.out 1
     have hfz26_2 := blk_frozen BK251.out 2
     have hfz26_3 := blk_frozen BK251.out 3
     have hfz26_4 := blk_frozen BK251.out 4
     have hfz26_5 := blk_frozen BK251.out 5
     have hfz26_6 := blk_frozen BK251.out 6
     have hfz26_7 := blk_frozen BK251.out 7
     go_wp2
     go_meet
     case rel => exact ⟨_, (true), (by first | rfl | (simp; done) | (simp [*]; done)), H', ⟨by first | omega | exact Nat.le_refl _⟩, ⟨by (with_reducible repeat (first | apply Kd.V_alloc | apply Kd.V_drewN | apply Kd.V_drew)); exact Kd.V_mono (Kd.V_far (p := ⟨gb251, 7, none⟩) (Kd.V_far (p := ⟨gb251, 6, none⟩) (Kd.V_far (p := ⟨gb251, 5, none⟩) (Kd.V_far (p := ⟨gb251, 4, none⟩) (Kd.V_far (p := ⟨gb251, 3, none⟩) (Kd.V_far (p := ⟨gb251, 2, none⟩) (Kd.V_far (p := ⟨gb251, 1, none⟩) (Kd.V_far (p := ⟨gb251, 0, none⟩) (Kd.V_mono HO250.out (fun k_ hk => (⟨hk, hk.2⟩ : _ ∧ k_ ≠ gb251))) (fun _ hk => hk.2) (.int .i64 t241)) (fun _ hk => hk.2) (.string t242)) (fun _ hk => hk.2) (.string t243)) (fun _ hk => hk.2) (.int .i64 t244)) (fun _ hk => hk.2) (.string t245)) (fun _ hk => hk.2) (.int .i64 t246)) (fun _ hk => hk.2) (.int .i64 t247)) (fun _ hk => hk.2) (.slice Ao10 t248.length co10)) (fun _ hk => ⟨hk.1.1, hk.1.2⟩)⟩, ⟨by (with_reducible repeat (first | apply blk_drewN | apply blk_drew | apply blk_alloc)); refine blk_far ?_ NB240_251.out _; (with_reducible repeat (first | apply blk_drewN | apply blk_drew | apply blk_alloc)); refine blk_far ?_ NB240_251.out _; (with_reducible repeat (first | apply blk_drewN | apply blk_drew | apply blk_alloc)); refine blk_far ?_ NB240_251.out _; (with_reducible repeat (first | apply blk_drewN | apply blk_drew | apply blk_alloc)); refine blk_far ?_ NB240_251.out _; (with_reducible repeat (first | apply blk_drewN | apply blk_drew | apply blk_alloc)); refine blk_far ?_ NB240_251.out _; (with_reducible repeat (first | apply blk_drewN | apply blk_drew | apply blk_alloc)); refine blk_far ?_ NB240_251.out _; (with_reducible repeat (first | apply blk_drewN | apply blk_drew | apply blk_alloc)); refine blk_far ?_ NB240_251.out _; (with_reducible repeat (first | apply blk_drewN | apply blk_drew | apply blk_alloc)); refine blk_far ?_ NB240_251.out _; (with_reducible repeat (first | apply blk_drewN | apply blk_drew | apply blk_alloc)); exact BK240.out⟩, ⟨by (with_reducible repeat (first | apply blk_drewN | apply blk_drew | apply blk_alloc)); refine blk_put (cs := #[.int .i64 t241, .string t242, .string t243, .int .i64 t244, .string t245, .int .i64 t246, .int .i64 t247, .slice none 0 0]) ?_ 7 _ rfl; (with_reducible repeat (first | apply blk_drewN | apply blk_drew | apply blk_alloc)); refine blk_put (cs := #[.int .i64 t241, .string t242, .string t243, .int .i64 t244, .string t245, .int .i64 t246, .int .i64 0, .slice none 0 0]) ?_ 6 _ rfl; (with_reducible repeat (first | apply blk_drewN | apply blk_drew | apply blk_alloc)); refine blk_put (cs := #[.int .i64 t241, .string t242, .string t243, .int .i64 t244, .string t245, .int .i64 0, .int .i64 0, .slice none 0 0]) ?_ 5 _ rfl; (with_reducible repeat (first | apply blk_drewN | apply blk_drew | apply blk_alloc)); refine blk_put (cs := #[.int .i64 t241, .string t242, .string t243, .int .i64 t244, .string ⟨#[]⟩, .int .i64 0, .int .i64 0, .slice none 0 0]) ?_ 4 _ rfl; (with_reducible repeat (first | apply blk_drewN | apply blk_drew | apply blk_alloc)); refine blk_put (cs := #[.int .i64 t241, .string t242, .string t243, .int .i64 0, .string ⟨#[]⟩, .int .i64 0, .int .i64 0, .slice none 0 0]) ?_ 3 _ rfl; (with_reducible repeat (first | apply blk_drewN | apply blk_drew | apply blk_alloc)); refine blk_put (cs := #[.int .i64 t241, .string t242, .string ⟨#[]⟩, .int .i64 0, .string ⟨#[]⟩, .int .i64 0, .int .i64 0, .slice none 0 0]) ?_ 2 _ rfl; (with_reducible repeat (first | apply blk_drewN | apply blk_drew | apply blk_alloc)); refine blk_put (cs := #[.int .i64 t241, .string ⟨#[]⟩, .string ⟨#[]⟩, .int .i64 0, .string ⟨#[]⟩, .int .i64 0, .int .i64 0, .slice none 0 0]) ?_ 1 _ rfl; (with_reducible repeat (first | apply blk_drewN | apply blk_drew | apply blk_alloc)); refine blk_put (cs := #[.int .i64 0, .string ⟨#[]⟩, .string ⟨#[]⟩, .int .i64 0, .string ⟨#[]⟩, .int .i64 0, .int .i64 0, .slice none 0 0]) ?_ 0 _ rfl; (with_reducible repeat (first | apply blk_drewN | apply blk_drew | apply blk_alloc)); exact BK251.out⟩, ⟨by with_reducible repeat (first | exact HB.out | apply below_alloc | apply pw_below_drewN | apply below_drew1 | refine below_set ?_ GE240.out | refine below_set ?_ GE251.out)⟩⟩
  ·rw [if_neg c11] at H
   have c11b0 : (a0_1.toList == t242.toList) = false := beq_eq_false_iff_ne.mpr c11
   have c11b1 : (a0_1.toList != t242.toList) = true := bne_iff_ne.mpr c11
   (first | rw [c11b0] | (simp only [i64_w, i32_w]; rw [c11b0]) | skip)
   have H' := Aside0.mk H
   clear H
   have hnb27 := NB240_251.out
   have hnc27 := NB251_240.out
   have hcz28_0 : w7.cell? ⟨gb240, 0, none⟩ = some (.int .i64 a0_0) := (blk_cell BK240.out 0).trans rfl
   have hcz28_1 : w7.cell? ⟨gb240, 1, none⟩ = some (.string a0_1) := (blk_cell BK240.out 1).trans rfl
   have hcz28_2 : w7.cell? ⟨gb240, 2, none⟩ = some (.string a0_2) := (blk_cell BK240.out 2).trans rfl
   have hcz28_3 : w7.cell? ⟨gb240, 3, none⟩ = some (.int .i64 a0_3) := (blk_cell BK240.out 3).trans rfl
   have hcz28_4 : w7.cell? ⟨gb240, 4, none⟩ = some (.string a0_4) := (blk_cell BK240.out 4).trans rfl
   have hcz28_5 : w7.cell? ⟨gb240, 5, none⟩ = some (.int .i64 a0_5) := (blk_cell BK240.out 5).trans rfl
   have hcz28_6 : w7.cell? ⟨gb240, 6, none⟩ = some (.int .i64 a0_6) := (blk_cell BK240.out 6).trans rfl
   have hcz28_7 : w7.cell? ⟨gb240, 7, none⟩ = some (.slice A0_7 l0_7.length c0_7) := (blk_cell BK240.out 7).trans rfl
   have hfz28_0 := blk_frozen BK240.out 0
   have hfz28_1 := blk_frozen BK240.out 1
   have hfz28_2 := blk_frozen BK240.out 2
   have hfz28_3 := blk_frozen BK240.out 3
   have hfz28_4 := blk_frozen BK240.out 4
   have hfz28_5 := blk_frozen BK240.out 5
   have hfz28_6 := blk_frozen BK240.out 6
   have hfz28_7 := blk_frozen BK240.out 7
   have hcz29_0 : w7.cell? ⟨gb251, 0, none⟩ = some (.int .i64 0) := (blk_cell BK251.out 0).trans rfl
   have hcz29_1 : w7.cell? ⟨gb251, 1, none⟩ = some (.string ⟨#[]⟩) := (blk_cell BK251.out 1).trans rfl
   have hcz29_2 : w7.cell? ⟨gb251, 2, none⟩ = some (.string ⟨#[]⟩) := (blk_cell BK251.out 2).trans rfl
   have hcz29_3 : w7.cell? ⟨gb251, 3, none⟩ = some (.int .i64 0) := (blk_cell BK251.out 3).trans rfl
   have hcz29_4 : w7.cell? ⟨gb251, 4, none⟩ = some (.string ⟨#[]⟩) := (blk_cell BK251.out 4).trans rfl
   have hcz29_5 : w7.cell? ⟨gb251, 5, none⟩ = some (.int .i64 0) := (blk_cell BK251.out 5).trans rfl
   have hcz29_6 : w7.cell? ⟨gb251, 6, none⟩ = some (.int .i64 0) := (blk_cell BK251.out 6).trans rfl
   have hcz29_7 : w7.cell? ⟨gb251, 7, none⟩ = some (.slice none 0 0) := (blk_cell BK251.out 7).trans rfl
   have hfz29_0 := blk_frozen BK251.out 0
   have hfz29_1 := blk_frozen BK251.out 1
   have hfz29_2 := blk_frozen BK251.out 2
   have hfz29_3 := blk_frozen BK251.out 3
   have hfz29_4 := blk_frozen BK251.out 4
   have hfz29_5 := blk_frozen BK251.out 5
   have hfz29_6 := blk_frozen BK251.out 6
   have hfz29_7 := blk_frozen BK251.out 7
   go_wp2
   go_meet
   case rel => exact ⟨_, (true), (by first | rfl | (simp; done) | (simp [*]; done)), H', ⟨by first | omega | exact Nat.le_refl _⟩, ⟨by (with_reducible repeat (first | apply Kd.V_alloc | apply Kd.V_drewN | apply Kd.V_drew)); exact Kd.V_mono (Kd.V_far (p := ⟨gb251, 7, none⟩) (Kd.V_far (p := ⟨gb251, 6, none⟩) (Kd.V_far (p := ⟨gb251, 5, none⟩) (Kd.V_far (p := ⟨gb251, 4, none⟩) (Kd.V_far (p := ⟨gb251, 3, none⟩) (Kd.V_far (p := ⟨gb251, 2, none⟩) (Kd.V_far (p := ⟨gb251, 1, none⟩) (Kd.V_far (p := ⟨gb251, 0, none⟩) (Kd.V_mono HO250.out (fun k_ hk => (⟨hk, hk.2⟩ : _ ∧ k_ ≠ gb251))) (fun _ hk => hk.2) (.int .i64 t241)) (fun _ hk => hk.2) (.string t242)) (fun _ hk => hk.2) (.string t243)) (fun _ hk => hk.2) (.int .i64 t244)) (fun _ hk => hk.2) (.string t245)) (fun _ hk => hk.2) (.int .i64 t246)) (fun _ hk => hk.2) (.int .i64 t247)) (fun _ hk => hk.2) (.slice Ao10 t248.length co10)) (fun _ hk => ⟨hk.1.1, hk.1.2⟩)⟩, ⟨by (with_reducible repeat (first | apply blk_drewN | apply blk_drew | apply blk_alloc)); refine blk_far ?_ NB240_251.out _; (with_reducible repeat (first | apply blk_drewN | apply blk_drew | apply blk_alloc)); refine blk_far ?_ NB240_251.out _; (with_reducible repeat (first | apply blk_drewN | apply blk_drew | apply blk_alloc)); refine blk_far ?_ NB240_251.out _; (with_reducible repeat (first | apply blk_drewN | apply blk_drew | apply blk_alloc)); refine blk_far ?_ NB240_251.out _; (with_reducible repeat (first | apply blk_drewN | apply blk_drew | apply blk_alloc)); refine blk_far ?_ NB240_251.out _; (with_reducible repeat (first | apply blk_drewN | apply blk_drew | apply blk_alloc)); refine blk_far ?_ NB240_251.out _; (with_reducible repeat (first | apply blk_drewN | apply blk_drew | apply blk_alloc)); refine blk_far ?_ NB240_251.out _; (with_reducible repeat (first | apply blk_drewN | apply blk_drew | apply blk_alloc)); refine blk_far ?_ NB240_251.out _; (with_reducible repeat (first | apply blk_drewN | apply blk_drew | apply blk_alloc)); exact BK240.out⟩, ⟨by (with_reducible repeat (first | apply blk_drewN | apply blk_drew | apply blk_alloc)); refine blk_put (cs := #[.int .i64 t241, .string t242, .string t243, .int .i64 t244, .string t245, .int .i64 t246, .int .i64 t247, .slice none 0 0]) ?_ 7 _ rfl; (with_reducible repeat (first | apply blk_drewN | apply blk_drew | apply blk_alloc)); refine blk_put (cs := #[.int .i64 t241, .string t242, .string t243, .int .i64 t244, .string t245, .int .i64 t246, .int .i64 0, .slice none 0 0]) ?_ 6 _ rfl; (with_reducible repeat (first | apply blk_drewN | apply blk_drew | apply blk_alloc)); refine blk_put (cs := #[.int .i64 t241, .string t242, .string t243, .int .i64 t244, .string t245, .int .i64 0, .int .i64 0, .slice none 0 0]) ?_ 5 _ rfl; (with_reducible repeat (first | apply blk_drewN | apply blk_drew | apply blk_alloc)); refine blk_put (cs := #[.int .i64 t241, .string t242, .string t243, .int .i64 t244, .string ⟨#[]⟩, .int .i64 0, .int .i64 0, .slice none 0 0]) ?_ 4 _ rfl; (with_reducible repeat (first | apply blk_drewN | apply blk_drew | apply blk_alloc)); refine blk_put (cs := #[.int .i64 t241, .string t242, .string t243, .int .i64 0, .string ⟨#[]⟩, .int .i64 0, .int .i64 0, .slice none 0 0]) ?_ 3 _ rfl; (with_reducible repeat (first | apply blk_drewN | apply blk_drew | apply blk_alloc)); refine blk_put (cs := #[.int .i64 t241, .string t242, .string ⟨#[]⟩, .int .i64 0, .string ⟨#[]⟩, .int .i64 0, .int .i64 0, .slice none 0 0]) ?_ 2 _ rfl; (with_reducible repeat (first | apply blk_drewN | apply blk_drew | apply blk_alloc)); refine blk_put (cs := #[.int .i64 t241, .string ⟨#[]⟩, .string ⟨#[]⟩, .int .i64 0, .string ⟨#[]⟩, .int .i64 0, .int .i64 0, .slice none 0 0]) ?_ 1 _ rfl; (with_reducible repeat (first | apply blk_drewN | apply blk_drew | apply blk_alloc)); refine blk_put (cs := #[.int .i64 0, .string ⟨#[]⟩, .string ⟨#[]⟩, .int .i64 0, .string ⟨#[]⟩, .int .i64 0, .int .i64 0, .slice none 0 0]) ?_ 0 _ rfl; (with_reducible repeat (first | apply blk_drewN | apply blk_drew | apply blk_alloc)); exact BK251.out⟩, ⟨by with_reducible repeat (first | exact HB.out | apply below_alloc | apply pw_below_drewN | apply below_drew1 | refine below_set ?_ GE240.out | refine below_set ?_ GE251.out)⟩⟩
 case rest =>
  clear HC3
  obtain ⟨kq, x43_2, rfl, HA, HJ2, HO_252007, BK240, BK251, HB⟩ := hcut
  cases kq with
  | zero => exact absurd HA.out (by simp [spec_l22Stage.j0])
  | succ kj2 =>
   have H := HA.out
   clear HA
   simp only [spec_l22Stage.j0] at H
   by_cases c30 : x43_2 = true
   ·subst c30
    have H1 : (some false) = some r := by rw [if_pos rfl] at H; exact H
    clear H
    have H := H1
    clear H1
    obtain rfl := Option.some.inj H
    go_wp2
    go_ret
    exact ⟨by first | rfl | (simp [bne]; done) | (simp [*] <;> rfl), by with_reducible repeat (first | exact HB.out | apply below_alloc | apply pw_below_drewN | apply below_drew1 | refine below_set ?_ GE240.out | refine below_set ?_ GE251.out)⟩
   ·replace c30 := Bool.eq_false_iff.mpr c30
    subst c30
    have H1 : (if a0_0 = 1 then (spec_l22Stage.j1 kj2 a0_0 (a0_0 == 1) a0_0 a0_1 a0_2 a0_3 a0_4 a0_5 a0_6 l0_7) else (spec_l22Stage.j1 kj2 a0_0 (a0_0 == 2) a0_0 a0_1 a0_2 a0_3 a0_4 a0_5 a0_6 l0_7)) = some r := by rw [if_neg (show ¬ (false = true) by decide)] at H; exact H
    clear H
    have H := H1
    clear H1
    have HC31 := Aside0.mk H
    clear H
    have hnb32 := NB240_251.out
    have hnc32 := NB251_240.out
    have hcz33_0 : wc.cell? ⟨gb240, 0, none⟩ = some (.int .i64 a0_0) := (blk_cell BK240.out 0).trans rfl
    have hcz33_1 : wc.cell? ⟨gb240, 1, none⟩ = some (.string a0_1) := (blk_cell BK240.out 1).trans rfl
    have hcz33_2 : wc.cell? ⟨gb240, 2, none⟩ = some (.string a0_2) := (blk_cell BK240.out 2).trans rfl
    have hcz33_3 : wc.cell? ⟨gb240, 3, none⟩ = some (.int .i64 a0_3) := (blk_cell BK240.out 3).trans rfl
    have hcz33_4 : wc.cell? ⟨gb240, 4, none⟩ = some (.string a0_4) := (blk_cell BK240.out 4).trans rfl
    have hcz33_5 : wc.cell? ⟨gb240, 5, none⟩ = some (.int .i64 a0_5) := (blk_cell BK240.out 5).trans rfl
    have hcz33_6 : wc.cell? ⟨gb240, 6, none⟩ = some (.int .i64 a0_6) := (blk_cell BK240.out 6).trans rfl
    have hcz33_7 : wc.cell? ⟨gb240, 7, none⟩ = some (.slice A0_7 l0_7.length c0_7) := (blk_cell BK240.out 7).trans rfl
    have hfz33_0 := blk_frozen BK240.out 0
    have hfz33_1 := blk_frozen BK240.out 1
    have hfz33_2 := blk_frozen BK240.out 2
    have hfz33_3 := blk_frozen BK240.out 3
    have hfz33_4 := blk_frozen BK240.out 4
    have hfz33_5 := blk_frozen BK240.out 5
    have hfz33_6 := blk_frozen BK240.out 6
    have hfz33_7 := blk_frozen BK240.out 7
    go_upto_if 46 with (fail)
    go_cut [46] (fun v46 wc => ∃ (kq : Nat) (x46_30 : Bool), v46 = .bool x46_30 ∧ Aside0 (spec_l22Stage.j1 kq a0_0 x46_30 a0_0 a0_1 a0_2 a0_3 a0_4 a0_5 a0_6 l0_7 = some r) ∧ Aside0 (kq ≤ kj2) ∧ Aside0 (Kd.V Kd.string 9 wc w.heap.size (fun k_ => k_ ≠ gb240 ∧ k_ ≠ gb251) (.slice Ao10 t248.length co10) t248) ∧ Aside0 (wc.heap[gb240]? = some (.cells #[.int .i64 a0_0, .string a0_1, .string a0_2, .int .i64 a0_3, .string a0_4, .int .i64 a0_5, .int .i64 a0_6, (.slice A0_7 l0_7.length c0_7)] 42 (0, 0))) ∧ Aside0 (wc.heap[gb251]? = some (.cells #[.int .i64 t241, .string t242, .string t243, .int .i64 t244, .string t245, .int .i64 t246, .int .i64 t247, (.slice Ao10 t248.length co10)] 42 (0, 0))) ∧ Aside0 (Below w.heap.size w wc))
    case first =>
     have H := HC31.out
     clear HC31
     by_cases c34 : a0_0 = 1
     ·rw [if_pos c34] at H
      have c34b0 : (a0_0 == 1) = true := beq_iff_eq.mpr c34
      have c34b1 : (a0_0 != 1) = false := bne_eq_false_iff_eq.mpr c34
      clear c34
      (first | rw [c34b0] | (simp only [i64_w, i32_w]; rw [c34b0]) | skip)
      have H' := Aside0.mk H
      clear H
      go_wp2
      go_meet
      case rel => exact ⟨_, ((a0_0 == 1)), (by first | rfl | (simp; done) | (simp [*]; done)), H', ⟨by have := HJ2.out; first | omega | exact Nat.le_refl _⟩, ⟨by (with_reducible repeat (first | apply Kd.V_alloc | apply Kd.V_drewN | apply Kd.V_drew)); exact HO_252007.out⟩, ⟨by (with_reducible repeat (first | apply blk_drewN | apply blk_drew | apply blk_alloc)); exact BK240.out⟩, ⟨by (with_reducible repeat (first | apply blk_drewN | apply blk_drew | apply blk_alloc)); exact BK251.out⟩, ⟨by with_reducible repeat (first | exact HB.out | apply below_alloc | apply pw_below_drewN | apply below_drew1 | refine below_set ?_ GE240.out | refine below_set ?_ GE251.out)⟩⟩
     ·rw [if_neg c34] at H
      have c34b0 : (a0_0 == 1) = false := beq_eq_false_iff_ne.mpr c34
      have c34b1 : (a0_0 != 1) = true := bne_iff_ne.mpr c34
      (first | rw [c34b0] | (simp only [i64_w, i32_w]; rw [c34b0]) | skip)
      have H' := Aside0.mk H
      clear H
      go_wp2
      go_meet
      case rel => exact ⟨_, ((a0_0 == 2)), (by first | rfl | (simp; done) | (simp [*]; done)), H', ⟨by have := HJ2.out; first | omega | exact Nat.le_refl _⟩, ⟨by (with_reducible repeat (first | apply Kd.V_alloc | apply Kd.V_drewN | apply Kd.V_drew)); exact HO_252007.out⟩, ⟨by (with_reducible repeat (first | apply blk_drewN | apply blk_drew | apply blk_alloc)); exact BK240.out⟩, ⟨by (with_reducible repeat (first | apply blk_drewN | apply blk_drew | apply blk_alloc)); exact BK251.out⟩, ⟨by with_reducible repeat (first | exact HB.out | apply below_alloc | apply pw_below_drewN | apply below_drew1 | refine below_set ?_ GE240.out | refine below_set ?_ GE251.out)⟩⟩
    case rest =>
     clear HC31
     obtain ⟨kq, x46_30, rfl, HA, HJ30, HO_252007, BK240, BK251, HB⟩ := hcut
     cases kq with
     | zero => exact absurd HA.out (by simp [spec_l22Stage.j1])
     | succ kj30 =>
      have H := HA.out
      clear HA
      simp only [spec_l22Stage.j1] at H
      by_cases c35 : x46_30 = true
      ·subst c35
       have H1 : (if a0_1.toList = ([] : List UInt8) then (some false) else ((spec_l22Text.f kj30 a0_1 100).bind fun t252 => (some t252))) = some r := by rw [if_pos rfl] at H; exact H
       clear H
       have H := H1
       clear H1
       by_cases c36 : a0_1.toList = ([] : List UInt8)
       ·rw [if_pos c36] at H
        have c36b0 : (a0_1.toList == ([] : List UInt8)) = true := beq_iff_eq.mpr c36
        have c36b1 : (a0_1.toList != ([] : List UInt8)) = false := bne_eq_false_iff_eq.mpr c36
        clear c36
        obtain rfl := Option.some.inj H
        have hnb37 := NB240_251.out
        have hnc37 := NB251_240.out
        have hcz38_0 : wc.cell? ⟨gb240, 0, none⟩ = some (.int .i64 a0_0) := (blk_cell BK240.out 0).trans rfl
        have hcz38_1 : wc.cell? ⟨gb240, 1, none⟩ = some (.string a0_1) := (blk_cell BK240.out 1).trans rfl
        have hcz38_2 : wc.cell? ⟨gb240, 2, none⟩ = some (.string a0_2) := (blk_cell BK240.out 2).trans rfl
        have hcz38_3 : wc.cell? ⟨gb240, 3, none⟩ = some (.int .i64 a0_3) := (blk_cell BK240.out 3).trans rfl
        have hcz38_4 : wc.cell? ⟨gb240, 4, none⟩ = some (.string a0_4) := (blk_cell BK240.out 4).trans rfl
        have hcz38_5 : wc.cell? ⟨gb240, 5, none⟩ = some (.int .i64 a0_5) := (blk_cell BK240.out 5).trans rfl
        have hcz38_6 : wc.cell? ⟨gb240, 6, none⟩ = some (.int .i64 a0_6) := (blk_cell BK240.out 6).trans rfl
        have hcz38_7 : wc.cell? ⟨gb240, 7, none⟩ = some (.slice A0_7 l0_7.length c0_7) := (blk_cell BK240.out 7).trans rfl
        have hfz38_0 := blk_frozen BK240.out 0
        have hfz38_1 := blk_frozen BK240.out 1
        have hfz38_2 := blk_frozen BK240.out 2
        have hfz38_3 := blk_frozen BK240.out 3
        have hfz38_4 := blk_frozen BK240.out 4
        have hfz38_5 := blk_frozen BK240.out 5
        have hfz38_6 := blk_frozen BK240.out 6
        have hfz38_7 := blk_frozen BK240.out 7
        go_wp2
        go_ret
        exact ⟨by first | rfl | (simp [bne]; done) | (simp [*] <;> rfl), by with_reducible repeat (first | exact HB.out | apply below_alloc | apply pw_below_drewN | apply below_drew1 | refine below_set ?_ GE240.out | refine below_set ?_ GE251.out)⟩
       ·rw [if_neg c36] at H
        have c36b0 : (a0_1.toList == ([] : List UInt8)) = false := beq_eq_false_iff_ne.mpr c36
        have c36b1 : (a0_1.toList != ([] : List UInt8)) = true := bne_iff_ne.mpr c36
        replace H := Option.bind_eq_some_iff.mp H
        obtain ⟨t252, A390, H⟩ := H
        replace H : (some t252) = some r := H
        have A39 := Aside0.mk A390
        clear A390
        obtain rfl := Option.some.inj H
        have hnb40 := NB240_251.out
        have hnc40 := NB251_240.out
        have hcz41_0 : wc.cell? ⟨gb240, 0, none⟩ = some (.int .i64 a0_0) := (blk_cell BK240.out 0).trans rfl
        have hcz41_1 : wc.cell? ⟨gb240, 1, none⟩ = some (.string a0_1) := (blk_cell BK240.out 1).trans rfl
        have hcz41_2 : wc.cell? ⟨gb240, 2, none⟩ = some (.string a0_2) := (blk_cell BK240.out 2).trans rfl
        have hcz41_3 : wc.cell? ⟨gb240, 3, none⟩ = some (.int .i64 a0_3) := (blk_cell BK240.out 3).trans rfl
        have hcz41_4 : wc.cell? ⟨gb240, 4, none⟩ = some (.string a0_4) := (blk_cell BK240.out 4).trans rfl
        have hcz41_5 : wc.cell? ⟨gb240, 5, none⟩ = some (.int .i64 a0_5) := (blk_cell BK240.out 5).trans rfl
        have hcz41_6 : wc.cell? ⟨gb240, 6, none⟩ = some (.int .i64 a0_6) := (blk_cell BK240.out 6).trans rfl
        have hcz41_7 : wc.cell? ⟨gb240, 7, none⟩ = some (.slice A0_7 l0_7.length c0_7) := (blk_cell BK240.out 7).trans rfl
        have hfz41_0 := blk_frozen BK240.out 0
        have hfz41_1 := blk_frozen BK240.out 1
        have hfz41_2 := blk_frozen BK240.out 2
        have hfz41_3 := blk_frozen BK240.out 3
        have hfz41_4 := blk_frozen BK240.out 4
        have hfz41_5 := blk_frozen BK240.out 5
        have hfz41_6 := blk_frozen BK240.out 6
        have hfz41_7 := blk_frozen BK240.out 7
        go_wp2_with (first | (go_at_call 27; (with_reducible refine (spec_l22Text.calls kj30 a0_1 100 t252 _ A39.out).mono ?_); rintro e w' ⟨rfl, ⟨nd, rfl⟩⟩))
        go_ret
        exact ⟨by first | rfl | (simp [bne]; done) | (simp [*] <;> rfl), by with_reducible repeat (first | exact HB.out | apply below_alloc | apply pw_below_drewN | apply below_drew1 | refine below_set ?_ GE240.out | refine below_set ?_ GE251.out)⟩
      ·replace c35 := Bool.eq_false_iff.mpr c35
       subst c35
       have H1 : (if a0_0 = 3 then (spec_l22Stage.j2 kj30 a0_0 (a0_0 == 3) a0_0 a0_1 a0_2 a0_3 a0_4 a0_5 a0_6 l0_7) else (spec_l22Stage.j2 kj30 a0_0 (a0_0 == 4) a0_0 a0_1 a0_2 a0_3 a0_4 a0_5 a0_6 l0_7)) = some r := by rw [if_neg (show ¬ (false = true) by decide)] at H; exact H
       clear H
       have H := H1
       clear H1
       have HC42 := Aside0.mk H
       clear H
       go_upto_if 57 with (fail)
       go_cut [57] (fun v57 wc => ∃ (kq : Nat) (x57_41 : Bool), v57 = .bool x57_41 ∧ Aside0 (spec_l22Stage.j2 kq a0_0 x57_41 a0_0 a0_1 a0_2 a0_3 a0_4 a0_5 a0_6 l0_7 = some r) ∧ Aside0 (kq ≤ kj30) ∧ Aside0 (Kd.V Kd.string 9 wc w.heap.size (fun k_ => k_ ≠ gb240 ∧ k_ ≠ gb251) (.slice Ao10 t248.length co10) t248) ∧ Aside0 (wc.heap[gb240]? = some (.cells #[.int .i64 a0_0, .string a0_1, .string a0_2, .int .i64 a0_3, .string a0_4, .int .i64 a0_5, .int .i64 a0_6, (.slice A0_7 l0_7.length c0_7)] 42 (0, 0))) ∧ Aside0 (wc.heap[gb251]? = some (.cells #[.int .i64 t241, .string t242, .string t243, .int .i64 t244, .string t245, .int .i64 t246, .int .i64 t247, (.slice Ao10 t248.length co10)] 42 (0, 0))) ∧ Aside0 (Below w.heap.size w wc))
       case first =>
        have H := HC42.out
        clear HC42
        by_cases c43 : a0_0 = 3
        ·rw [if_pos c43] at H
         have c43b0 : (a0_0 == 3) = true := beq_iff_eq.mpr c43
         have c43b1 : (a0_0 != 3) = false := bne_eq_false_iff_eq.mpr c43
         clear c43
         (first | rw [c43b0] | (simp only [i64_w, i32_w]; rw [c43b0]) | skip)
         have H' := Aside0.mk H
         clear H
         go_wp2
         go_meet
         case rel => exact ⟨_, ((a0_0 == 3)), (by first | rfl | (simp; done) | (simp [*]; done)), H', ⟨by have := HJ2.out; have := HJ30.out; first | omega | exact Nat.le_refl _⟩, ⟨by (with_reducible repeat (first | apply Kd.V_alloc | apply Kd.V_drewN | apply Kd.V_drew)); exact HO_252007.out⟩, ⟨by (with_reducible repeat (first | apply blk_drewN | apply blk_drew | apply blk_alloc)); exact BK240.out⟩, ⟨by (with_reducible repeat (first | apply blk_drewN | apply blk_drew | apply blk_alloc)); exact BK251.out⟩, ⟨by with_reducible repeat (first | exact HB.out | apply below_alloc | apply pw_below_drewN | apply below_drew1 | refine below_set ?_ GE240.out | refine below_set ?_ GE251.out)⟩⟩
        ·rw [if_neg c43] at H
         have c43b0 : (a0_0 == 3) = false := beq_eq_false_iff_ne.mpr c43
         have c43b1 : (a0_0 != 3) = true := bne_iff_ne.mpr c43
         (first | rw [c43b0] | (simp only [i64_w, i32_w]; rw [c43b0]) | skip)
         have H' := Aside0.mk H
         clear H
         go_wp2
         go_meet
         case rel => exact ⟨_, ((a0_0 == 4)), (by first | rfl | (simp; done) | (simp [*]; done)), H', ⟨by have := HJ2.out; have := HJ30.out; first | omega | exact Nat.le_refl _⟩, ⟨by (with_reducible repeat (first | apply Kd.V_alloc | apply Kd.V_drewN | apply Kd.V_drew)); exact HO_252007.out⟩, ⟨by (with_reducible repeat (first | apply blk_drewN | apply blk_drew | apply blk_alloc)); exact BK240.out⟩, ⟨by (with_reducible repeat (first | apply blk_drewN | apply blk_drew | apply blk_alloc)); exact BK251.out⟩, ⟨by with_reducible repeat (first | exact HB.out | apply below_alloc | apply pw_below_drewN | apply below_drew1 | refine below_set ?_ GE240.out | refine below_set ?_ GE251.out)⟩⟩
       case rest =>
        clear HC42
        obtain ⟨kq, x57_41, rfl, HA, HJ41, HO_252007, BK240, BK251, HB⟩ := hcut
        cases kq with
        | zero => exact absurd HA.out (by simp [spec_l22Stage.j2])
        | succ kj41 =>
         have H := HA.out
         clear HA
         simp only [spec_l22Stage.j2] at H
         by_cases c44 : x57_41 = true
         ·subst c44
          have H1 : (if a0_1.toList = ([] : List UInt8) then (some false) else ((spec_GoodPattern.f kj41 a0_1).bind fun t253 => (some t253))) = some r := by rw [if_pos rfl] at H; exact H
          clear H
          have H := H1
          clear H1
          by_cases c45 : a0_1.toList = ([] : List UInt8)
          ·rw [if_pos c45] at H
           have c45b0 : (a0_1.toList == ([] : List UInt8)) = true := beq_iff_eq.mpr c45
           have c45b1 : (a0_1.toList != ([] : List UInt8)) = false := bne_eq_false_iff_eq.mpr c45
           clear c45
           obtain rfl := Option.some.inj H
           have hnb46 := NB240_251.out
           have hnc46 := NB251_240.out
           have hcz47_0 : wc.cell? ⟨gb240, 0, none⟩ = some (.int .i64 a0_0) := (blk_cell BK240.out 0).trans rfl
           have hcz47_1 : wc.cell? ⟨gb240, 1, none⟩ = some (.string a0_1) := (blk_cell BK240.out 1).trans rfl
           have hcz47_2 : wc.cell? ⟨gb240, 2, none⟩ = some (.string a0_2) := (blk_cell BK240.out 2).trans rfl
           have hcz47_3 : wc.cell? ⟨gb240, 3, none⟩ = some (.int .i64 a0_3) := (blk_cell BK240.out 3).trans rfl
           have hcz47_4 : wc.cell? ⟨gb240, 4, none⟩ = some (.string a0_4) := (blk_cell BK240.out 4).trans rfl
           have hcz47_5 : wc.cell? ⟨gb240, 5, none⟩ = some (.int .i64 a0_5) := (blk_cell BK240.out 5).trans rfl
           have hcz47_6 : wc.cell? ⟨gb240, 6, none⟩ = some (.int .i64 a0_6) := (blk_cell BK240.out 6).trans rfl
           have hcz47_7 : wc.cell? ⟨gb240, 7, none⟩ = some (.slice A0_7 l0_7.length c0_7) := (blk_cell BK240.out 7).trans rfl
           have hfz47_0 := blk_frozen BK240.out 0
           have hfz47_1 := blk_frozen BK240.out 1
           have hfz47_2 := blk_frozen BK240.out 2
           have hfz47_3 := blk_frozen BK240.out 3
           have hfz47_4 := blk_frozen BK240.out 4
           have hfz47_5 := blk_frozen BK240.out 5
           have hfz47_6 := blk_frozen BK240.out 6
           have hfz47_7 := blk_frozen BK240.out 7
           go_wp2
           go_ret
           exact ⟨by first | rfl | (simp [bne]; done) | (simp [*] <;> rfl), by with_reducible repeat (first | exact HB.out | apply below_alloc | apply pw_below_drewN | apply below_drew1 | refine below_set ?_ GE240.out | refine below_set ?_ GE251.out)⟩
          ·rw [if_neg c45] at H
           have c45b0 : (a0_1.toList == ([] : List UInt8)) = false := beq_eq_false_iff_ne.mpr c45
           have c45b1 : (a0_1.toList != ([] : List UInt8)) = true := bne_iff_ne.mpr c45
           replace H := Option.bind_eq_some_iff.mp H
           obtain ⟨t253, A480, H⟩ := H
           replace H : (some t253) = some r := H
           have A48 := Aside0.mk A480
           clear A480
           obtain rfl := Option.some.inj H
           have hnb49 := NB240_251.out
           have hnc49 := NB251_240.out
           have hcz50_0 : wc.cell? ⟨gb240, 0, none⟩ = some (.int .i64 a0_0) := (blk_cell BK240.out 0).trans rfl
           have hcz50_1 : wc.cell? ⟨gb240, 1, none⟩ = some (.string a0_1) := (blk_cell BK240.out 1).trans rfl
           have hcz50_2 : wc.cell? ⟨gb240, 2, none⟩ = some (.string a0_2) := (blk_cell BK240.out 2).trans rfl
           have hcz50_3 : wc.cell? ⟨gb240, 3, none⟩ = some (.int .i64 a0_3) := (blk_cell BK240.out 3).trans rfl
           have hcz50_4 : wc.cell? ⟨gb240, 4, none⟩ = some (.string a0_4) := (blk_cell BK240.out 4).trans rfl
           have hcz50_5 : wc.cell? ⟨gb240, 5, none⟩ = some (.int .i64 a0_5) := (blk_cell BK240.out 5).trans rfl
           have hcz50_6 : wc.cell? ⟨gb240, 6, none⟩ = some (.int .i64 a0_6) := (blk_cell BK240.out 6).trans rfl
           have hcz50_7 : wc.cell? ⟨gb240, 7, none⟩ = some (.slice A0_7 l0_7.length c0_7) := (blk_cell BK240.out 7).trans rfl
           have hfz50_0 := blk_frozen BK240.out 0
           have hfz50_1 := blk_frozen BK240.out 1
           have hfz50_2 := blk_frozen BK240.out 2
           have hfz50_3 := blk_frozen BK240.out 3
           have hfz50_4 := blk_frozen BK240.out 4
           have hfz50_5 := blk_frozen BK240.out 5
           have hfz50_6 := blk_frozen BK240.out 6
           have hfz50_7 := blk_frozen BK240.out 7
           go_wp2_with (first | (go_at_call 25; (with_reducible refine (spec_GoodPattern.calls kj41 a0_1 t253 _ A48.out).mono ?_); rintro e w51 ⟨rfl, hb⟩; have n0_ := Aside0.mk (Kd.V_below (by (with_reducible repeat (first | apply Kd.V_alloc | apply Kd.V_drewN | apply Kd.V_drew)); exact HO_252007.out) hb); have n1_ := Aside0.mk (blk_below (g := gb240) (by (with_reducible repeat (first | apply blk_drewN | apply blk_drew | apply blk_alloc)); exact BK240.out) hb); have n2_ := Aside0.mk (blk_below (g := gb251) (by (with_reducible repeat (first | apply blk_drewN | apply blk_drew | apply blk_alloc)); exact BK251.out) hb); have n3_ := Aside0.mk (below_step (by with_reducible repeat (first | exact HB.out | apply below_alloc | apply pw_below_drewN | apply below_drew1 | refine below_set ?_ GE240.out | refine below_set ?_ GE251.out)) hb); clear HO_252007; clear BK240; clear BK251; clear HB; have HO_252007 := n0_; have BK240 := n1_; have BK251 := n2_; have HB := n3_; clear n0_ n1_ n2_ n3_; (try clear hb); (try clear hb2); (try clear hk); (try clear hi)))
           go_ret
           exact ⟨by first | rfl | (simp [bne]; done) | (simp [*] <;> rfl), by with_reducible repeat (first | exact HB.out | apply below_alloc | apply pw_below_drewN | apply below_drew1 | refine below_set ?_ GE240.out | refine below_set ?_ GE251.out)⟩
         ·replace c44 := Bool.eq_false_iff.mpr c44
          subst c44
          have H1 : (if a0_0 = 5 then (some true) else (if a0_0 = 6 then ((spec_l22Form.f kj41 a0_1).bind fun bt254 => (some bt254.2.2)) else (if a0_0 = 7 then ((spec_GoodMatchers.f kj41 (([(⟨a0_2, a0_3, a0_4⟩ : S39)] : List (S39)))).bind fun t264 => (some t264)) else (if a0_0 = 8 then ((spec_l2Name.f kj41 a0_2).bind fun t265 => (if t265 = true then ((spec_l15Compare.f a0_5).bind fun t266 => (some t266)) else (some false))) else (if a0_0 = 9 then ((spec_GoodTemplate.f kj41 a0_1).bind fun t267 => (some t267)) else (if a0_0 = 10 then (if (l0_7.length : Int) > 0 then ((spec_l15Names.f kj41 l0_7).bind fun t268 => (some t268)) else (some false)) else (if a0_0 = 11 then (if (l0_7.length : Int) > 0 then ((spec_l15Names.f kj41 l0_7).bind fun t269 => (some t269)) else (some false)) else (some false)))))))) = some r := by rw [if_neg (show ¬ (false = true) by decide)] at H; exact H
          clear H
          have H := H1
          clear H1
          by_cases c52 : a0_0 = 5
          ·rw [if_pos c52] at H
           have c52b0 : (a0_0 == 5) = true := beq_iff_eq.mpr c52
           have c52b1 : (a0_0 != 5) = false := bne_eq_false_iff_eq.mpr c52
           clear c52
           obtain rfl := Option.some.inj H
           go_wp2
           go_ret
           exact ⟨by first | rfl | (simp [bne]; done) | (simp [*] <;> rfl), by with_reducible repeat (first | exact HB.out | apply below_alloc | apply pw_below_drewN | apply below_drew1 | refine below_set ?_ GE240.out | refine below_set ?_ GE251.out)⟩
          ·rw [if_neg c52] at H
           have c52b0 : (a0_0 == 5) = false := beq_eq_false_iff_ne.mpr c52
           have c52b1 : (a0_0 != 5) = true := bne_iff_ne.mpr c52
           by_cases c53 : a0_0 = 6
           ·rw [if_pos c53] at H
            have c53b0 : (a0_0 == 6) = true := beq_iff_eq.mpr c53
            have c53b1 : (a0_0 != 6) = false := bne_eq_false_iff_eq.mpr c53
            clear c53
            replace H := Option.bind_eq_some_iff.mp H
            obtain ⟨⟨t254, t255, t256⟩, A540, H⟩ := H
            replace H : (some t256) = some r := H
            have A54 := Aside0.mk A540
            clear A540
            obtain rfl := Option.some.inj H
            have hnb55 := NB240_251.out
            have hnc55 := NB251_240.out
            have hcz56_0 : wc.cell? ⟨gb240, 0, none⟩ = some (.int .i64 a0_0) := (blk_cell BK240.out 0).trans rfl
            have hcz56_1 : wc.cell? ⟨gb240, 1, none⟩ = some (.string a0_1) := (blk_cell BK240.out 1).trans rfl
            have hcz56_2 : wc.cell? ⟨gb240, 2, none⟩ = some (.string a0_2) := (blk_cell BK240.out 2).trans rfl
            have hcz56_3 : wc.cell? ⟨gb240, 3, none⟩ = some (.int .i64 a0_3) := (blk_cell BK240.out 3).trans rfl
            have hcz56_4 : wc.cell? ⟨gb240, 4, none⟩ = some (.string a0_4) := (blk_cell BK240.out 4).trans rfl
            have hcz56_5 : wc.cell? ⟨gb240, 5, none⟩ = some (.int .i64 a0_5) := (blk_cell BK240.out 5).trans rfl
            have hcz56_6 : wc.cell? ⟨gb240, 6, none⟩ = some (.int .i64 a0_6) := (blk_cell BK240.out 6).trans rfl
            have hcz56_7 : wc.cell? ⟨gb240, 7, none⟩ = some (.slice A0_7 l0_7.length c0_7) := (blk_cell BK240.out 7).trans rfl
            have hfz56_0 := blk_frozen BK240.out 0
            have hfz56_1 := blk_frozen BK240.out 1
            have hfz56_2 := blk_frozen BK240.out 2
            have hfz56_3 := blk_frozen BK240.out 3
            have hfz56_4 := blk_frozen BK240.out 4
            have hfz56_5 := blk_frozen BK240.out 5
            have hfz56_6 := blk_frozen BK240.out 6
            have hfz56_7 := blk_frozen BK240.out 7
            go_wp2_with (first | ((with_reducible refine gate_callee (f := 28) rfl ?_); refine goesL_ (some 75) rfl rfl Try.func28 (by kernel_rfl) rfl #[.string a0_1] rfl (by (try simp only [List.map_toArray, List.map_cons, List.map_nil]); first | done | rfl) ?_; (with_reducible refine (spec_l22Form.calls kj41 a0_1 t254 t255 t256 _ A54.out).mono ?_); rintro e w57 ⟨v257, v259, rfl, ho0, ho1, hb⟩; refine ⟨_, rfl, ?_⟩; have n0_ := Aside0.mk (Kd.V_mono (Kd.V_told (Kd.V_told (Kd.V_old (by (with_reducible repeat (first | apply Kd.V_alloc | apply Kd.V_drewN | apply Kd.V_drew)); exact HO_252007.out) hb) (Kd.R_base ho0)) (Kd.R_base ho1)) (fun _ h_ => h_.1)); have n1_ := Aside0.mk (Kd.R_lower ho0 (below_size (by with_reducible repeat (first | exact HB.out | apply below_alloc | apply pw_below_drewN | apply below_drew1 | refine below_set ?_ GE240.out | refine below_set ?_ GE251.out)))); have n2_ := Aside0.mk (Kd.R_lower ho1 (below_size (by with_reducible repeat (first | exact HB.out | apply below_alloc | apply pw_below_drewN | apply below_drew1 | refine below_set ?_ GE240.out | refine below_set ?_ GE251.out)))); have n3_ := Aside0.mk (blk_below (g := gb240) (by (with_reducible repeat (first | apply blk_drewN | apply blk_drew | apply blk_alloc)); exact BK240.out) hb); have n4_ := Aside0.mk (blk_below (g := gb251) (by (with_reducible repeat (first | apply blk_drewN | apply blk_drew | apply blk_alloc)); exact BK251.out) hb); have n5_ := Aside0.mk (below_step (by with_reducible repeat (first | exact HB.out | apply below_alloc | apply pw_below_drewN | apply below_drew1 | refine below_set ?_ GE240.out | refine below_set ?_ GE251.out)) hb); clear HO_252007; clear BK240; clear BK251; clear HB; have HO_252007 := n0_; have HO258 := n1_; have HO260 := n2_; have BK240 := n3_; have BK251 := n4_; have HB := n5_; clear n0_ n1_ n2_ n3_ n4_ n5_; (try clear hb); (try clear hb2); (try clear hk); (try clear hi); (try clear ho0); (try clear ho1)))
            go_ret
            exact ⟨by first | rfl | (simp [bne]; done) | (simp [*] <;> rfl), by with_reducible repeat (first | exact HB.out | apply below_alloc | apply pw_below_drewN | apply below_drew1 | refine below_set ?_ GE240.out | refine below_set ?_ GE251.out)⟩
           ·rw [if_neg c53] at H
            have c53b0 : (a0_0 == 6) = false := beq_eq_false_iff_ne.mpr c53
            have c53b1 : (a0_0 != 6) = true := bne_iff_ne.mpr c53
            by_cases c58 : a0_0 = 7
            ·rw [if_pos c58] at H
             have c58b0 : (a0_0 == 7) = true := beq_iff_eq.mpr c58
             have c58b1 : (a0_0 != 7) = false := bne_eq_false_iff_eq.mpr c58
             clear c58
             obtain ⟨y261, hy261⟩ : ∃ y_ : List (S39), y_ = (([(⟨a0_2, a0_3, a0_4⟩ : S39)] : List (S39))) := ⟨_, rfl⟩
             replace H : ((spec_GoodMatchers.f kj41 y261).bind fun t264 => (some t264)) = some r := by first | (rw [hy261]; with_reducible exact H) | (have H2_ := (Option.bind_some _ _).symm.trans H; rw [hy261]; with_reducible exact H2_) | (have H2_ := (Option.bind_some _ _).symm.trans H; with_reducible exact H2_) | with_reducible exact H | (rw [hy261]; exact H) | exact H
             have Ny261 := Aside0.mk hy261
             clear hy261
             replace H := Option.bind_eq_some_iff.mp H
             obtain ⟨t264, A590, H⟩ := H
             replace H : (some t264) = some r := H
             have A59 := Aside0.mk A590
             clear A590
             obtain rfl := Option.some.inj H
             have hnb60 := NB240_251.out
             have hnc60 := NB251_240.out
             have hcz61_0 : wc.cell? ⟨gb240, 0, none⟩ = some (.int .i64 a0_0) := (blk_cell BK240.out 0).trans rfl
             have hcz61_1 : wc.cell? ⟨gb240, 1, none⟩ = some (.string a0_1) := (blk_cell BK240.out 1).trans rfl
             have hcz61_2 : wc.cell? ⟨gb240, 2, none⟩ = some (.string a0_2) := (blk_cell BK240.out 2).trans rfl
             have hcz61_3 : wc.cell? ⟨gb240, 3, none⟩ = some (.int .i64 a0_3) := (blk_cell BK240.out 3).trans rfl
             have hcz61_4 : wc.cell? ⟨gb240, 4, none⟩ = some (.string a0_4) := (blk_cell BK240.out 4).trans rfl
             have hcz61_5 : wc.cell? ⟨gb240, 5, none⟩ = some (.int .i64 a0_5) := (blk_cell BK240.out 5).trans rfl
             have hcz61_6 : wc.cell? ⟨gb240, 6, none⟩ = some (.int .i64 a0_6) := (blk_cell BK240.out 6).trans rfl
             have hcz61_7 : wc.cell? ⟨gb240, 7, none⟩ = some (.slice A0_7 l0_7.length c0_7) := (blk_cell BK240.out 7).trans rfl
             have hfz61_0 := blk_frozen BK240.out 0
             have hfz61_1 := blk_frozen BK240.out 1
             have hfz61_2 := blk_frozen BK240.out 2
             have hfz61_3 := blk_frozen BK240.out 3
             have hfz61_4 := blk_frozen BK240.out 4
             have hfz61_5 := blk_frozen BK240.out 5
             have hfz61_6 := blk_frozen BK240.out 6
             have hfz61_7 := blk_frozen BK240.out 7
             go_wp2_with (first | ((with_reducible refine gate_dst (N := 84) rfl ?_); (try (refine gate_guard (by rfl) ?_; dsimp only)); refine Kd.R_lit k39 _ 39 ?hg (N := 84) ?hd (xs := ([(⟨a0_2, a0_3, a0_4⟩ : S39)] : List (S39))) (inner := [.string a0_2, .int .i64 a0_3, .string a0_4]) (ok := fun _ => True) (okp := fun _ => True) ?hr ?hp (fun _ hk => hk) trivial (Below.refl _ _) (Nat.le_refl _) (by simp) ?_; (case hd => rfl); (case hg => rfl); (case hr => first | (go_simp; done) | (go_simp; rfl)); (case hp => exact (Reps.c3 (show Kd.M k39 _ _ _ (⟨a0_2, a0_3, a0_4⟩ : S39) [.string a0_2, .int .i64 a0_3, .string a0_4] from (k39_mkM _ _ _ (⟨a0_2, a0_3, a0_4⟩ : S39) )) (Reps.none _ _))); intro v262 w62 ho63 hb hg_ hnew_; clear hg_ hnew_; (first | rw [← Ny261.out] at ho63 | (simp only [Int.reduceToNat] at ho63; rw [← Ny261.out] at ho63)); have n0_ := Aside0.mk (Kd.V_elder' (by (with_reducible repeat (first | apply Kd.V_alloc | apply Kd.V_drewN | apply Kd.V_drew)); exact HO_252007.out) (Kd.R_base ho63) hb); have n1_ := Aside0.mk (Kd.R_lower ho63 (below_size (by with_reducible repeat (first | exact HB.out | apply below_alloc | apply pw_below_drewN | apply below_drew1 | refine below_set ?_ GE240.out | refine below_set ?_ GE251.out)))); have n2_ := Aside0.mk (blk_below (g := gb240) (by (with_reducible repeat (first | apply blk_drewN | apply blk_drew | apply blk_alloc)); exact BK240.out) hb); have n3_ := Aside0.mk (blk_below (g := gb251) (by (with_reducible repeat (first | apply blk_drewN | apply blk_drew | apply blk_alloc)); exact BK251.out) hb); have n4_ := Aside0.mk (below_step (by with_reducible repeat (first | exact HB.out | apply below_alloc | apply pw_below_drewN | apply below_drew1 | refine below_set ?_ GE240.out | refine below_set ?_ GE251.out)) hb); clear HO_252007; clear BK240; clear BK251; clear HB; have HO_252007 := n0_; have HO263 := n1_; have BK240 := n2_; have BK251 := n3_; have HB := n4_; clear n0_ n1_ n2_ n3_ n4_; clear hb ho63; obtain ⟨Ao64, co64, eo64⟩ := Kd.R_slice HO263.out; subst eo64) | ((with_reducible refine gate_callee (f := 11) rfl ?_); refine goesL_ (some 85) rfl rfl Try.func11 (by kernel_rfl) rfl #[.slice Ao64 y261.length co64] rfl (by (try simp only [List.map_toArray, List.map_cons, List.map_nil]); first | done | rfl) ?_; (with_reducible refine (spec_GoodMatchers.calls kj41 _ _ y261 t264 _ ?side1 ?side2 A59.out).mono ?_); (case side1 => repeat (first | exact (Kd.R_reads' HO263.out).2.2 | (with_reducible refine Kd.C_alloc ?_ _) | (with_reducible refine Kd.C_drewN ?_ _) | (with_reducible refine Kd.C_drew ?_))); (case side2 => exact (Kd.R_reads' HO263.out).2.1); rintro e w65 ⟨rfl, hb⟩; refine ⟨_, rfl, ?_⟩; have n0_ := Aside0.mk (Kd.V_below (by (with_reducible repeat (first | apply Kd.V_alloc | apply Kd.V_drewN | apply Kd.V_drew)); exact HO_252007.out) hb); have n1_ := Aside0.mk (Kd.R_below (by (with_reducible repeat (first | apply Kd.R_alloc | apply Kd.R_drewN | apply Kd.R_drew)); exact HO263.out) hb); have n2_ := Aside0.mk (blk_below (g := gb240) (by (with_reducible repeat (first | apply blk_drewN | apply blk_drew | apply blk_alloc)); exact BK240.out) hb); have n3_ := Aside0.mk (blk_below (g := gb251) (by (with_reducible repeat (first | apply blk_drewN | apply blk_drew | apply blk_alloc)); exact BK251.out) hb); have n4_ := Aside0.mk (below_step (by with_reducible repeat (first | exact HB.out | apply below_alloc | apply pw_below_drewN | apply below_drew1 | refine below_set ?_ GE240.out | refine below_set ?_ GE251.out)) hb); clear HO_252007; clear HO263; clear BK240; clear BK251; clear HB; have HO_252007 := n0_; have HO263 := n1_; have BK240 := n2_; have BK251 := n3_; have HB := n4_; clear n0_ n1_ n2_ n3_ n4_; (try clear hb); (try clear hb2); (try clear hk); (try clear hi)))
             go_ret
             exact ⟨by first | rfl | (simp [bne]; done) | (simp [*] <;> rfl), by with_reducible repeat (first | exact HB.out | apply below_alloc | apply pw_below_drewN | apply below_drew1 | refine below_set ?_ GE240.out | refine below_set ?_ GE251.out)⟩
            ·rw [if_neg c58] at H
             have c58b0 : (a0_0 == 7) = false := beq_eq_false_iff_ne.mpr c58
             have c58b1 : (a0_0 != 7) = true := bne_iff_ne.mpr c58
             by_cases c66 : a0_0 = 8
             ·rw [if_pos c66] at H
              have c66b0 : (a0_0 == 8) = true := beq_iff_eq.mpr c66
              have c66b1 : (a0_0 != 8) = false := bne_eq_false_iff_eq.mpr c66
              clear c66
              replace H := Option.bind_eq_some_iff.mp H
              obtain ⟨t265, A670, H⟩ := H
              replace H : (if t265 = true then ((spec_l15Compare.f a0_5).bind fun t266 => (some t266)) else (some false)) = some r := H
              have A67 := Aside0.mk A670
              clear A670
              by_cases c68 : t265 = true
              ·subst c68
               have H1 : ((spec_l15Compare.f a0_5).bind fun t266 => (some t266)) = some r := by rw [if_pos rfl] at H; exact H
               clear H
               have H := H1
               clear H1
               replace H := Option.bind_eq_some_iff.mp H
               obtain ⟨t266, A690, H⟩ := H
               replace H : (some t266) = some r := H
               have A69 := Aside0.mk A690
               clear A690
               obtain rfl := Option.some.inj H
               have hnb70 := NB240_251.out
               have hnc70 := NB251_240.out
               have hcz71_0 : wc.cell? ⟨gb240, 0, none⟩ = some (.int .i64 a0_0) := (blk_cell BK240.out 0).trans rfl
               have hcz71_1 : wc.cell? ⟨gb240, 1, none⟩ = some (.string a0_1) := (blk_cell BK240.out 1).trans rfl
               have hcz71_2 : wc.cell? ⟨gb240, 2, none⟩ = some (.string a0_2) := (blk_cell BK240.out 2).trans rfl
               have hcz71_3 : wc.cell? ⟨gb240, 3, none⟩ = some (.int .i64 a0_3) := (blk_cell BK240.out 3).trans rfl
               have hcz71_4 : wc.cell? ⟨gb240, 4, none⟩ = some (.string a0_4) := (blk_cell BK240.out 4).trans rfl
               have hcz71_5 : wc.cell? ⟨gb240, 5, none⟩ = some (.int .i64 a0_5) := (blk_cell BK240.out 5).trans rfl
               have hcz71_6 : wc.cell? ⟨gb240, 6, none⟩ = some (.int .i64 a0_6) := (blk_cell BK240.out 6).trans rfl
               have hcz71_7 : wc.cell? ⟨gb240, 7, none⟩ = some (.slice A0_7 l0_7.length c0_7) := (blk_cell BK240.out 7).trans rfl
               have hfz71_0 := blk_frozen BK240.out 0
               have hfz71_1 := blk_frozen BK240.out 1
               have hfz71_2 := blk_frozen BK240.out 2
               have hfz71_3 := blk_frozen BK240.out 3
               have hfz71_4 := blk_frozen BK240.out 4
               have hfz71_5 := blk_frozen BK240.out 5
               have hfz71_6 := blk_frozen BK240.out 6
               have hfz71_7 := blk_frozen BK240.out 7
               go_wp2_with (first | ((with_reducible refine gate_callee (f := 23) rfl ?_); refine goesL_ (some 91) rfl rfl Try.func23 (by kernel_rfl) rfl #[.string a0_2] rfl (by (try simp only [List.map_toArray, List.map_cons, List.map_nil]); first | done | rfl) ?_; (with_reducible refine (spec_l2Name.calls kj41 a0_2 true _ A67.out).mono ?_); rintro e w' ⟨rfl, ⟨nd, rfl⟩⟩; refine ⟨_, rfl, ?_⟩) | (go_at_call 29; (with_reducible refine (spec_l15Compare.calls a0_5 t266 _ A69.out).mono ?_); rintro e w' ⟨rfl, ⟨nd, rfl⟩⟩))
               go_ret
               exact ⟨by first | rfl | (simp [bne]; done) | (simp [*] <;> rfl), by with_reducible repeat (first | exact HB.out | apply below_alloc | apply pw_below_drewN | apply below_drew1 | refine below_set ?_ GE240.out | refine below_set ?_ GE251.out)⟩
              ·replace c68 := Bool.eq_false_iff.mpr c68
               subst c68
               have H1 : (some false) = some r := by rw [if_neg (show ¬ (false = true) by decide)] at H; exact H
               clear H
               have H := H1
               clear H1
               obtain rfl := Option.some.inj H
               have hnb72 := NB240_251.out
               have hnc72 := NB251_240.out
               have hcz73_0 : wc.cell? ⟨gb240, 0, none⟩ = some (.int .i64 a0_0) := (blk_cell BK240.out 0).trans rfl
               have hcz73_1 : wc.cell? ⟨gb240, 1, none⟩ = some (.string a0_1) := (blk_cell BK240.out 1).trans rfl
               have hcz73_2 : wc.cell? ⟨gb240, 2, none⟩ = some (.string a0_2) := (blk_cell BK240.out 2).trans rfl
               have hcz73_3 : wc.cell? ⟨gb240, 3, none⟩ = some (.int .i64 a0_3) := (blk_cell BK240.out 3).trans rfl
               have hcz73_4 : wc.cell? ⟨gb240, 4, none⟩ = some (.string a0_4) := (blk_cell BK240.out 4).trans rfl
               have hcz73_5 : wc.cell? ⟨gb240, 5, none⟩ = some (.int .i64 a0_5) := (blk_cell BK240.out 5).trans rfl
               have hcz73_6 : wc.cell? ⟨gb240, 6, none⟩ = some (.int .i64 a0_6) := (blk_cell BK240.out 6).trans rfl
               have hcz73_7 : wc.cell? ⟨gb240, 7, none⟩ = some (.slice A0_7 l0_7.length c0_7) := (blk_cell BK240.out 7).trans rfl
               have hfz73_0 := blk_frozen BK240.out 0
               have hfz73_1 := blk_frozen BK240.out 1
               have hfz73_2 := blk_frozen BK240.out 2
               have hfz73_3 := blk_frozen BK240.out 3
               have hfz73_4 := blk_frozen BK240.out 4
               have hfz73_5 := blk_frozen BK240.out 5
               have hfz73_6 := blk_frozen BK240.out 6
               have hfz73_7 := blk_frozen BK240.out 7
               go_wp2_with (first | ((with_reducible refine gate_callee (f := 23) rfl ?_); refine goesL_ (some 91) rfl rfl Try.func23 (by kernel_rfl) rfl #[.string a0_2] rfl (by (try simp only [List.map_toArray, List.map_cons, List.map_nil]); first | done | rfl) ?_; (with_reducible refine (spec_l2Name.calls kj41 a0_2 false _ A67.out).mono ?_); rintro e w' ⟨rfl, ⟨nd, rfl⟩⟩; refine ⟨_, rfl, ?_⟩))
               go_ret
               exact ⟨by first | rfl | (simp [bne]; done) | (simp [*] <;> rfl), by with_reducible repeat (first | exact HB.out | apply below_alloc | apply pw_below_drewN | apply below_drew1 | refine below_set ?_ GE240.out | refine below_set ?_ GE251.out)⟩
             ·rw [if_neg c66] at H
              have c66b0 : (a0_0 == 8) = false := beq_eq_false_iff_ne.mpr c66
              have c66b1 : (a0_0 != 8) = true := bne_iff_ne.mpr c66
              by_cases c74 : a0_0 = 9
              ·rw [if_pos c74] at H
               have c74b0 : (a0_0 == 9) = true := beq_iff_eq.mpr c74
               have c74b1 : (a0_0 != 9) = false := bne_eq_false_iff_eq.mpr c74
               clear c74
               replace H := Option.bind_eq_some_iff.mp H
               obtain ⟨t267, A750, H⟩ := H
               replace H : (some t267) = some r := H
               have A75 := Aside0.mk A750
               clear A750
               obtain rfl := Option.some.inj H
               have hnb76 := NB240_251.out
               have hnc76 := NB251_240.out
               have hcz77_0 : wc.cell? ⟨gb240, 0, none⟩ = some (.int .i64 a0_0) := (blk_cell BK240.out 0).trans rfl
               have hcz77_1 : wc.cell? ⟨gb240, 1, none⟩ = some (.string a0_1) := (blk_cell BK240.out 1).trans rfl
               have hcz77_2 : wc.cell? ⟨gb240, 2, none⟩ = some (.string a0_2) := (blk_cell BK240.out 2).trans rfl
               have hcz77_3 : wc.cell? ⟨gb240, 3, none⟩ = some (.int .i64 a0_3) := (blk_cell BK240.out 3).trans rfl
               have hcz77_4 : wc.cell? ⟨gb240, 4, none⟩ = some (.string a0_4) := (blk_cell BK240.out 4).trans rfl
               have hcz77_5 : wc.cell? ⟨gb240, 5, none⟩ = some (.int .i64 a0_5) := (blk_cell BK240.out 5).trans rfl
               have hcz77_6 : wc.cell? ⟨gb240, 6, none⟩ = some (.int .i64 a0_6) := (blk_cell BK240.out 6).trans rfl
               have hcz77_7 : wc.cell? ⟨gb240, 7, none⟩ = some (.slice A0_7 l0_7.length c0_7) := (blk_cell BK240.out 7).trans rfl
               have hfz77_0 := blk_frozen BK240.out 0
               have hfz77_1 := blk_frozen BK240.out 1
               have hfz77_2 := blk_frozen BK240.out 2
               have hfz77_3 := blk_frozen BK240.out 3
               have hfz77_4 := blk_frozen BK240.out 4
               have hfz77_5 := blk_frozen BK240.out 5
               have hfz77_6 := blk_frozen BK240.out 6
               have hfz77_7 := blk_frozen BK240.out 7
               go_wp2_with (first | ((with_reducible refine gate_callee (f := 30) rfl ?_); refine goesL_ (some 101) rfl rfl Try.func30 (by kernel_rfl) rfl #[.string a0_1] rfl (by (try simp only [List.map_toArray, List.map_cons, List.map_nil]); first | done | rfl) ?_; (with_reducible refine (spec_GoodTemplate.calls kj41 a0_1 t267 _ A75.out).mono ?_); rintro e w78 ⟨rfl, hb⟩; refine ⟨_, rfl, ?_⟩; have n0_ := Aside0.mk (Kd.V_below (by (with_reducible repeat (first | apply Kd.V_alloc | apply Kd.V_drewN | apply Kd.V_drew)); exact HO_252007.out) hb); have n1_ := Aside0.mk (blk_below (g := gb240) (by (with_reducible repeat (first | apply blk_drewN | apply blk_drew | apply blk_alloc)); exact BK240.out) hb); have n2_ := Aside0.mk (blk_below (g := gb251) (by (with_reducible repeat (first | apply blk_drewN | apply blk_drew | apply blk_alloc)); exact BK251.out) hb); have n3_ := Aside0.mk (below_step (by with_reducible repeat (first | exact HB.out | apply below_alloc | apply pw_below_drewN | apply below_drew1 | refine below_set ?_ GE240.out | refine below_set ?_ GE251.out)) hb); clear HO_252007; clear BK240; clear BK251; clear HB; have HO_252007 := n0_; have BK240 := n1_; have BK251 := n2_; have HB := n3_; clear n0_ n1_ n2_ n3_; (try clear hb); (try clear hb2); (try clear hk); (try clear hi)))
               go_ret
               exact ⟨by first | rfl | (simp [bne]; done) | (simp [*] <;> rfl), by with_reducible repeat (first | exact HB.out | apply below_alloc | apply pw_below_drewN | apply below_drew1 | refine below_set ?_ GE240.out | refine below_set ?_ GE251.out)⟩
              ·rw [if_neg c74] at H
               have c74b0 : (a0_0 == 9) = false := beq_eq_false_iff_ne.mpr c74
               have c74b1 : (a0_0 != 9) = true := bne_iff_ne.mpr c74
               by_cases c79 : a0_0 = 10
               ·rw [if_pos c79] at H
                have c79b0 : (a0_0 == 10) = true := beq_iff_eq.mpr c79
                have c79b1 : (a0_0 != 10) = false := bne_eq_false_iff_eq.mpr c79
                clear c79
                by_cases c80 : (l0_7.length : Int) > 0
                ·rw [if_pos c80] at H
                 have c80b0 : decide (0 < (l0_7.length : Int)) = true := decide_eq_true c80
                 have c80b1 : decide (0 < l0_7.length) = true := decide_eq_true (by omega)
                 clear c80
                 replace H := Option.bind_eq_some_iff.mp H
                 obtain ⟨t268, A810, H⟩ := H
                 replace H : (some t268) = some r := H
                 have A81 := Aside0.mk A810
                 clear A810
                 obtain rfl := Option.some.inj H
                 have hnb82 := NB240_251.out
                 have hnc82 := NB251_240.out
                 have hcz83_0 : wc.cell? ⟨gb240, 0, none⟩ = some (.int .i64 a0_0) := (blk_cell BK240.out 0).trans rfl
                 have hcz83_1 : wc.cell? ⟨gb240, 1, none⟩ = some (.string a0_1) := (blk_cell BK240.out 1).trans rfl
                 have hcz83_2 : wc.cell? ⟨gb240, 2, none⟩ = some (.string a0_2) := (blk_cell BK240.out 2).trans rfl
                 have hcz83_3 : wc.cell? ⟨gb240, 3, none⟩ = some (.int .i64 a0_3) := (blk_cell BK240.out 3).trans rfl
                 have hcz83_4 : wc.cell? ⟨gb240, 4, none⟩ = some (.string a0_4) := (blk_cell BK240.out 4).trans rfl
                 have hcz83_5 : wc.cell? ⟨gb240, 5, none⟩ = some (.int .i64 a0_5) := (blk_cell BK240.out 5).trans rfl
                 have hcz83_6 : wc.cell? ⟨gb240, 6, none⟩ = some (.int .i64 a0_6) := (blk_cell BK240.out 6).trans rfl
                 have hcz83_7 : wc.cell? ⟨gb240, 7, none⟩ = some (.slice A0_7 l0_7.length c0_7) := (blk_cell BK240.out 7).trans rfl
                 have hfz83_0 := blk_frozen BK240.out 0
                 have hfz83_1 := blk_frozen BK240.out 1
                 have hfz83_2 := blk_frozen BK240.out 2
                 have hfz83_3 := blk_frozen BK240.out 3
                 have hfz83_4 := blk_frozen BK240.out 4
                 have hfz83_5 := blk_frozen BK240.out 5
                 have hfz83_6 := blk_frozen BK240.out 6
                 have hfz83_7 := blk_frozen BK240.out 7
                 go_wp2_with (first | (go_at_call 31; (with_reducible refine (spec_l15Names.calls kj41 _ _ l0_7 t268 _ ?side1 ?side2 A81.out).mono ?_); (case side1 => repeat (first | exact (Kd.C_below HR0_7.out HB.out) | (with_reducible refine Kd.C_alloc ?_ _) | (with_reducible refine Kd.C_drewN ?_ _) | (with_reducible refine Kd.C_drew ?_))); (case side2 => exact HC0_7.out); rintro e w' ⟨rfl, ⟨nd, rfl⟩⟩))
                 go_ret
                 exact ⟨by first | rfl | (simp [bne]; done) | (simp [*] <;> rfl), by with_reducible repeat (first | exact HB.out | apply below_alloc | apply pw_below_drewN | apply below_drew1 | refine below_set ?_ GE240.out | refine below_set ?_ GE251.out)⟩
                ·rw [if_neg c80] at H
                 have c80b0 : decide (0 < (l0_7.length : Int)) = false := decide_eq_false c80
                 have c80b1 : decide (0 < l0_7.length) = false := decide_eq_false (by omega)
                 clear c80
                 obtain rfl := Option.some.inj H
                 have hnb84 := NB240_251.out
                 have hnc84 := NB251_240.out
                 have hcz85_0 : wc.cell? ⟨gb240, 0, none⟩ = some (.int .i64 a0_0) := (blk_cell BK240.out 0).trans rfl
                 have hcz85_1 : wc.cell? ⟨gb240, 1, none⟩ = some (.string a0_1) := (blk_cell BK240.out 1).trans rfl
                 have hcz85_2 : wc.cell? ⟨gb240, 2, none⟩ = some (.string a0_2) := (blk_cell BK240.out 2).trans rfl
                 have hcz85_3 : wc.cell? ⟨gb240, 3, none⟩ = some (.int .i64 a0_3) := (blk_cell BK240.out 3).trans rfl
                 have hcz85_4 : wc.cell? ⟨gb240, 4, none⟩ = some (.string a0_4) := (blk_cell BK240.out 4).trans rfl
                 have hcz85_5 : wc.cell? ⟨gb240, 5, none⟩ = some (.int .i64 a0_5) := (blk_cell BK240.out 5).trans rfl
                 have hcz85_6 : wc.cell? ⟨gb240, 6, none⟩ = some (.int .i64 a0_6) := (blk_cell BK240.out 6).trans rfl
                 have hcz85_7 : wc.cell? ⟨gb240, 7, none⟩ = some (.slice A0_7 l0_7.length c0_7) := (blk_cell BK240.out 7).trans rfl
                 have hfz85_0 := blk_frozen BK240.out 0
                 have hfz85_1 := blk_frozen BK240.out 1
                 have hfz85_2 := blk_frozen BK240.out 2
                 have hfz85_3 := blk_frozen BK240.out 3
                 have hfz85_4 := blk_frozen BK240.out 4
                 have hfz85_5 := blk_frozen BK240.out 5
                 have hfz85_6 := blk_frozen BK240.out 6
                 have hfz85_7 := blk_frozen BK240.out 7
                 go_wp2
                 go_ret
                 exact ⟨by first | rfl | (simp [bne]; done) | (simp [*] <;> rfl), by with_reducible repeat (first | exact HB.out | apply below_alloc | apply pw_below_drewN | apply below_drew1 | refine below_set ?_ GE240.out | refine below_set ?_ GE251.out)⟩
               ·rw [if_neg c79] at H
                have c79b0 : (a0_0 == 10) = false := beq_eq_false_iff_ne.mpr c79
                have c79b1 : (a0_0 != 10) = true := bne_iff_ne.mpr c79
                by_cases c86 : a0_0 = 11
                ·rw [if_pos c86] at H
                 have c86b0 : (a0_0 == 11) = true := beq_iff_eq.mpr c86
                 have c86b1 : (a0_0 != 11) = false := bne_eq_false_iff_eq.mpr c86
                 clear c86
                 by_cases c87 : (l0_7.length : Int) > 0
                 ·rw [if_pos c87] at H
                  have c87b0 : decide (0 < (l0_7.length : Int)) = true := decide_eq_true c87
                  have c87b1 : decide (0 < l0_7.length) = true := decide_eq_true (by omega)
                  clear c87
                  replace H := Option.bind_eq_some_iff.mp H
                  obtain ⟨t269, A880, H⟩ := H
                  replace H : (some t269) = some r := H
                  have A88 := Aside0.mk A880
                  clear A880
                  obtain rfl := Option.some.inj H
                  have hnb89 := NB240_251.out
                  have hnc89 := NB251_240.out
                  have hcz90_0 : wc.cell? ⟨gb240, 0, none⟩ = some (.int .i64 a0_0) := (blk_cell BK240.out 0).trans rfl
                  have hcz90_1 : wc.cell? ⟨gb240, 1, none⟩ = some (.string a0_1) := (blk_cell BK240.out 1).trans rfl
                  have hcz90_2 : wc.cell? ⟨gb240, 2, none⟩ = some (.string a0_2) := (blk_cell BK240.out 2).trans rfl
                  have hcz90_3 : wc.cell? ⟨gb240, 3, none⟩ = some (.int .i64 a0_3) := (blk_cell BK240.out 3).trans rfl
                  have hcz90_4 : wc.cell? ⟨gb240, 4, none⟩ = some (.string a0_4) := (blk_cell BK240.out 4).trans rfl
                  have hcz90_5 : wc.cell? ⟨gb240, 5, none⟩ = some (.int .i64 a0_5) := (blk_cell BK240.out 5).trans rfl
                  have hcz90_6 : wc.cell? ⟨gb240, 6, none⟩ = some (.int .i64 a0_6) := (blk_cell BK240.out 6).trans rfl
                  have hcz90_7 : wc.cell? ⟨gb240, 7, none⟩ = some (.slice A0_7 l0_7.length c0_7) := (blk_cell BK240.out 7).trans rfl
                  have hfz90_0 := blk_frozen BK240.out 0
                  have hfz90_1 := blk_frozen BK240.out 1
                  have hfz90_2 := blk_frozen BK240.out 2
                  have hfz90_3 := blk_frozen BK240.out 3
                  have hfz90_4 := blk_frozen BK240.out 4
                  have hfz90_5 := blk_frozen BK240.out 5
                  have hfz90_6 := blk_frozen BK240.out 6
                  have hfz90_7 := blk_frozen BK240.out 7
                  go_wp2_with (first | (go_at_call 31; (with_reducible refine (spec_l15Names.calls kj41 _ _ l0_7 t269 _ ?side1 ?side2 A88.out).mono ?_); (case side1 => repeat (first | exact (Kd.C_below HR0_7.out HB.out) | (with_reducible refine Kd.C_alloc ?_ _) | (with_reducible refine Kd.C_drewN ?_ _) | (with_reducible refine Kd.C_drew ?_))); (case side2 => exact HC0_7.out); rintro e w' ⟨rfl, ⟨nd, rfl⟩⟩))
                  go_ret
                  exact ⟨by first | rfl | (simp [bne]; done) | (simp [*] <;> rfl), by with_reducible repeat (first | exact HB.out | apply below_alloc | apply pw_below_drewN | apply below_drew1 | refine below_set ?_ GE240.out | refine below_set ?_ GE251.out)⟩
                 ·rw [if_neg c87] at H
                  have c87b0 : decide (0 < (l0_7.length : Int)) = false := decide_eq_false c87
                  have c87b1 : decide (0 < l0_7.length) = false := decide_eq_false (by omega)
                  clear c87
                  obtain rfl := Option.some.inj H
                  have hnb91 := NB240_251.out
                  have hnc91 := NB251_240.out
                  have hcz92_0 : wc.cell? ⟨gb240, 0, none⟩ = some (.int .i64 a0_0) := (blk_cell BK240.out 0).trans rfl
                  have hcz92_1 : wc.cell? ⟨gb240, 1, none⟩ = some (.string a0_1) := (blk_cell BK240.out 1).trans rfl
                  have hcz92_2 : wc.cell? ⟨gb240, 2, none⟩ = some (.string a0_2) := (blk_cell BK240.out 2).trans rfl
                  have hcz92_3 : wc.cell? ⟨gb240, 3, none⟩ = some (.int .i64 a0_3) := (blk_cell BK240.out 3).trans rfl
                  have hcz92_4 : wc.cell? ⟨gb240, 4, none⟩ = some (.string a0_4) := (blk_cell BK240.out 4).trans rfl
                  have hcz92_5 : wc.cell? ⟨gb240, 5, none⟩ = some (.int .i64 a0_5) := (blk_cell BK240.out 5).trans rfl
                  have hcz92_6 : wc.cell? ⟨gb240, 6, none⟩ = some (.int .i64 a0_6) := (blk_cell BK240.out 6).trans rfl
                  have hcz92_7 : wc.cell? ⟨gb240, 7, none⟩ = some (.slice A0_7 l0_7.length c0_7) := (blk_cell BK240.out 7).trans rfl
                  have hfz92_0 := blk_frozen BK240.out 0
                  have hfz92_1 := blk_frozen BK240.out 1
                  have hfz92_2 := blk_frozen BK240.out 2
                  have hfz92_3 := blk_frozen BK240.out 3
                  have hfz92_4 := blk_frozen BK240.out 4
                  have hfz92_5 := blk_frozen BK240.out 5
                  have hfz92_6 := blk_frozen BK240.out 6
                  have hfz92_7 := blk_frozen BK240.out 7
                  go_wp2
                  go_ret
                  exact ⟨by first | rfl | (simp [bne]; done) | (simp [*] <;> rfl), by with_reducible repeat (first | exact HB.out | apply below_alloc | apply pw_below_drewN | apply below_drew1 | refine below_set ?_ GE240.out | refine below_set ?_ GE251.out)⟩
                ·rw [if_neg c86] at H
                 have c86b0 : (a0_0 == 11) = false := beq_eq_false_iff_ne.mpr c86
                 have c86b1 : (a0_0 != 11) = true := bne_iff_ne.mpr c86
                 obtain rfl := Option.some.inj H
                 go_wp2
                 go_ret
                 exact ⟨by first | rfl | (simp [bne]; done) | (simp [*] <;> rfl), by with_reducible repeat (first | exact HB.out | apply below_alloc | apply pw_below_drewN | apply below_drew1 | refine below_set ?_ GE240.out | refine below_set ?_ GE251.out)⟩

end Go.Proofs.Ytafphfdnoejdeaa.PFnExactGoodPipe
