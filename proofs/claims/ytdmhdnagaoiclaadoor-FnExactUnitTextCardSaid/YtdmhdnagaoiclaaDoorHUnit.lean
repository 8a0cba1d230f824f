/- The walk of impl.UnitText (written by unitgen.py). -/
import Derived.Test.YtdmhdnagaoiclaaDoorPFnExactUnitTextx3
import Derived.Laws.DeepStrings4
namespace Go.Proofs.YtdmhdnagaoiclaaDoor.PFnExactUnitText
open Go.RowKit Go.Proofs.YtdmhdnagaoiclaaDoorW.PrintWords Go.Proofs.YtdmhdnagaoiclaaDoorW.PrintLast Go.Proofs.YtdmhdnagaoiclaaDoorW.PrintMore
set_option linter.unusedVariables false
set_option linter.unusedSimpArgs false
abbrev dhms : ByteArray := ⟨#[100, 104, 109, 115]⟩
abbrev unitsB : List ByteArray := [(⟨#[75, 105]⟩ : ByteArray), (⟨#[77, 105]⟩ : ByteArray), (⟨#[71, 105]⟩ : ByteArray), (⟨#[84, 105]⟩ : ByteArray), (⟨#[80, 105]⟩ : ByteArray), (⟨#[69, 105]⟩ : ByteArray)]
abbrev unitsS : List ByteArray := [(⟨#[107]⟩ : ByteArray), (⟨#[77]⟩ : ByteArray), (⟨#[71]⟩ : ByteArray), (⟨#[84]⟩ : ByteArray), (⟨#[80]⟩ : ByteArray), (⟨#[69]⟩ : ByteArray)]
def impl_UnitText.share (s : ByteArray) (v : Int) : Option ByteArray := (impl_digitsOf.f (wrap64 (Int.tdiv v 10))).bind fun t => (impl_digitsOf.f (Int.tmod v 10)).bind fun u => if s.size + t.size + 1 + u.size + 1 ≤ 9223372036854775807 then some ((((s ++ t) ++ (⟨#[46]⟩ : ByteArray)) ++ u) ++ (⟨#[37]⟩ : ByteArray)) else none
def impl_UnitText.at (s n m : ByteArray) (x y : Int) : Option ByteArray := (impl_digitsOf.f x).bind fun t => if s.size + t.size + 1 ≤ 9223372036854775807 then (if y = 0 then some ((s ++ t) ++ n) else (impl_digitsOf.f y).bind fun u => if s.size + t.size + 1 + (u.size + 1) ≤ 9223372036854775807 then some (((s ++ t) ++ n) ++ (u ++ m)) else none) else none
def impl_UnitText.time (s : ByteArray) (n0 n1 n2 n3 : Int) : Option ByteArray := if n0 = 0 then (if n1 = 0 then (if n2 = 0 then (if n3 = 0 then some (⟨#[48, 115]⟩ : ByteArray) else impl_UnitText.at s (⟨#[115]⟩ : ByteArray) ByteArray.empty n3 0) else impl_UnitText.at s (⟨#[109]⟩ : ByteArray) (⟨#[115]⟩ : ByteArray) n2 n3) else impl_UnitText.at s (⟨#[104]⟩ : ByteArray) (⟨#[109]⟩ : ByteArray) n1 n2) else impl_UnitText.at s (⟨#[100]⟩ : ByteArray) (⟨#[104]⟩ : ByteArray) n0 n1
def impl_UnitText.j0 (k : Nat) (a0 a1 : Int) (s : ByteArray) (v : Int) : Option ByteArray := if a1 = 1 then impl_digitsOf.f a0 else (if a1 = 2 then impl_unitOf.f k a0 1024 unitsB else (if a1 = 5 then impl_unitOf.f k a0 1000 unitsS else (if a1 = 4 then impl_UnitText.share s v else (if a1 = 3 then impl_UnitText.time s (wrap64 (Int.tdiv v 86400)) (Int.tmod (wrap64 (Int.tdiv v 3600)) 24) (Int.tmod (wrap64 (Int.tdiv v 60)) 60) (Int.tmod v 60) else some (⟨#[]⟩ : ByteArray)))))
def impl_UnitText.f (k : Nat) (a0 a1 : Int) : Option ByteArray := if a0 = (-9223372036854775808) then some (⟨#[]⟩ : ByteArray) else if a0 < 0 then impl_UnitText.j0 k a0 a1 (⟨#[45]⟩ : ByteArray) (wrap64 (-a0)) else impl_UnitText.j0 k a0 a1 (⟨#[]⟩ : ByteArray) a0
theorem wr1 : wrap64 1 = 1 := by unfold wrap64; decide
theorem wr2 : wrap64 2 = 2 := by unfold wrap64; decide
theorem wr3 : wrap64 3 = 3 := by unfold wrap64; decide
theorem wr4 : wrap64 4 = 4 := by unfold wrap64; decide
theorem wr5 : wrap64 5 = 5 := by unfold wrap64; decide
attribute [local go_sem] wr1 wr2 wr3 wr4 wr5
def Cells (w : World) (B : Nat) (n0 n1 n2 n3 : Int) : Prop := w.cell? ⟨B, 0, none⟩ = some (.int .i64 n0) ∧ w.cell? ⟨B, 1, none⟩ = some (.int .i64 n1) ∧ w.cell? ⟨B, 2, none⟩ = some (.int .i64 n2) ∧ w.cell? ⟨B, 3, none⟩ = some (.int .i64 n3) ∧ w.cell? ⟨B, 4, none⟩ = some (.int .i64 0)
theorem Cells.new (w : World) (n0 n1 n2 n3 : Int) (t : TypeId) : Cells (w.alloc (.cells #[.int .i64 n0, .int .i64 n1, .int .i64 n2, .int .i64 n3, .int .i64 0] t)) w.heap.size n0 n1 n2 n3 :=
  ⟨by rw [World.cell?_alloc_new]; rfl, by rw [World.cell?_alloc_new]; rfl, by rw [World.cell?_alloc_new]; rfl, by rw [World.cell?_alloc_new]; rfl, by rw [World.cell?_alloc_new]; rfl⟩
theorem Cells.below {w w' : World} {B : Nat} {n0 n1 n2 n3 : Int} (h : Cells w B n0 n1 n2 n3) (hb : Below w.heap.size w w') : Cells w' B n0 n1 n2 n3 :=
  have hl : B < w.heap.size := World.block_lt_of_cell? w _ h.1
  ⟨(hb.cell hl).trans h.1, (hb.cell hl).trans h.2.1, (hb.cell hl).trans h.2.2.1, (hb.cell hl).trans h.2.2.2.1, (hb.cell hl).trans h.2.2.2.2⟩
theorem Cells.drew {w : World} {B : Nat} {n0 n1 n2 n3 : Int} (h : Cells w B n0 n1 n2 n3) : Cells w.drew B n0 n1 n2 n3 := h.below (below_drew1 (Below.refl _ _))
set_option maxHeartbeats 8000000 in
set_option maxRecDepth 100000 in
theorem impl_UnitText.calls (k : Nat) (a0 a1 : Int) (r : ByteArray) (w : World) (htab : Tab w) (h : impl_UnitText.f k a0 a1 = some r) :
    Calls Tryd.prog 5 #[.int .i64 a0, .int .i64 a1] w fun e w' => e = .returned (.string r) ∧ Below w.heap.size w w' := by
  have HB := Aside0.mk (Below.refl w.heap.size w)
  have HTB := Aside0.mk (Lib.tabBelow_of_tabIs htab)
  clear htab
  have H : (if a0 = (-9223372036854775808) then some (⟨#[]⟩ : ByteArray) else if a0 < 0 then impl_UnitText.j0 k a0 a1 (⟨#[45]⟩ : ByteArray) (wrap64 (-a0)) else impl_UnitText.j0 k a0 a1 (⟨#[]⟩ : ByteArray) a0) = some r := h
  clear h
  by_cases c3 : a0 = (-9223372036854775808)
  · rw [if_pos c3] at H
    have c3b0 : (a0 == (-9223372036854775808)) = true := beq_iff_eq.mpr c3
    have c3b1 : (a0 != (-9223372036854775808)) = false := bne_eq_false_iff_eq.mpr c3
    clear c3
    obtain rfl := Option.some.inj H
    go_enter Tryd.func5, Tryd.ntmps5
    go_wp2
    go_ret
    exact ⟨by first | rfl | (simp [bne]; done) | (simp [*]; done), (by repeat (first | (with_reducible first | exact HB.out | apply below_alloc | apply pw_below_drewN | apply below_drew1) | exact HB.out))⟩
  · rw [if_neg c3] at H
    have c3b0 : (a0 == (-9223372036854775808)) = false := beq_eq_false_iff_ne.mpr c3
    have c3b1 : (a0 != (-9223372036854775808)) = true := bne_iff_ne.mpr c3
    have HC4 := Aside0.mk H
    clear H
    go_enter Tryd.func5, Tryd.ntmps5
    go_upto_if 14 with (fail)
    go_cut [5, 6] (fun v5 v6 wc => ∃ (s : ByteArray) (v : Int), v5 = .string s ∧ v6 = .int .i64 v ∧ Aside0 (impl_UnitText.j0 k a0 a1 s v = some r) ∧ Aside0 (Below w.heap.size w wc) ∧ wc = w)
    case first =>
      have H := HC4.out
      clear HC4
      by_cases c5 : a0 < 0
      · rw [if_pos c5] at H
        have c5b0 : decide (a0 < 0) = true := decide_eq_true c5
        clear c5
        (first | rw [c5b0] | (simp only [i64_w, i32_w]; rw [c5b0]) | skip)
        have H' := Aside0.mk H
        clear H
        go_wp2
        go_meet
        case rel => exact ⟨(⟨#[45]⟩ : ByteArray), (wrap64 (-a0)), (by first | rfl | (simp; done) | (simp [*]; done)), (by first | rfl | (simp; done) | (simp [*]; done)), H', ⟨(by repeat (first | (with_reducible first | exact HB.out | apply below_alloc | apply pw_below_drewN | apply below_drew1) | exact HB.out))⟩, rfl⟩
      · rw [if_neg c5] at H
        have c5b0 : decide (a0 < 0) = false := decide_eq_false c5
        clear c5
        (first | rw [c5b0] | (simp only [i64_w, i32_w]; rw [c5b0]) | skip)
        have H' := Aside0.mk H
        clear H
        go_wp2
        go_meet
        case rel => exact ⟨(⟨#[]⟩ : ByteArray), a0, (by first | rfl | (simp; done) | (simp [*]; done)), (by first | rfl | (simp; done) | (simp [*]; done)), H', ⟨(by repeat (first | (with_reducible first | exact HB.out | apply below_alloc | apply pw_below_drewN | apply below_drew1) | exact HB.out))⟩, rfl⟩
    case rest =>
      clear HC4
      obtain ⟨s, v, rfl, rfl, HA, HB, hw_⟩ := hcut
      subst hw_
      have H := HA.out
      clear HA
      unfold impl_UnitText.j0 at H
      by_cases d1 : a1 = 1
      · rw [if_pos d1] at H
        have d1b0 : (a1 == 1) = true := beq_iff_eq.mpr d1
        clear d1
        have H := Aside0.mk H
        go_wp2_with (first | ((with_reducible refine gate_callee (f := 8) rfl ?_); refine goesL_ (some 21) rfl rfl Tryd.func8 (by kernel_rfl) rfl #[.int .i64 a0] rfl (by (try simp only [List.map_toArray, List.map_cons, List.map_nil]); first | done | rfl | (simp only [List.length_drop, List.length_take]; rfl)) ?_; (with_reducible refine (impl_digitsOf.calls a0 r _ (Lib.TabBelow.here (Lib.TabBelow.on HTB.out (by repeat (first | (with_reducible first | exact HB.out | apply below_alloc | apply pw_below_drewN | apply below_drew1) | exact HB.out)))) H.out).mono ?_); rintro e w' ⟨rfl, hb⟩; refine ⟨_, rfl, ?_⟩; have n0_ := Aside0.mk (below_step (by repeat (first | (with_reducible first | exact HB.out | apply below_alloc | apply pw_below_drewN | apply below_drew1) | exact HB.out)) hb); clear HB; have HB := n0_; clear n0_ hb))
        go_ret
        exact ⟨by first | rfl | (simp [bne]; done) | (simp [*]; done), (by repeat (first | (with_reducible first | exact HB.out | apply below_alloc | apply pw_below_drewN | apply below_drew1) | exact HB.out))⟩
      · rw [if_neg d1] at H
        have d1b0 : (a1 == 1) = false := beq_eq_false_iff_ne.mpr d1
        clear d1
        by_cases d2 : a1 = 2
        · rw [if_pos d2] at H
          have d2b0 : (a1 == 2) = true := beq_iff_eq.mpr d2
          clear d2
          have H := Aside0.mk H
          go_wp2_with (first | ((with_reducible refine gate_dst (N := 25) rfl ?_); refine Kd.R_lit Kd.string _ 9 ?hg (N := 25) ?hd (xs := ([(⟨#[75, 105]⟩ : ByteArray), (⟨#[77, 105]⟩ : ByteArray), (⟨#[71, 105]⟩ : ByteArray), (⟨#[84, 105]⟩ : ByteArray), (⟨#[80, 105]⟩ : ByteArray), (⟨#[69, 105]⟩ : ByteArray)] : List ByteArray)) (inner := [.string (⟨#[75, 105]⟩ : ByteArray), .string (⟨#[77, 105]⟩ : ByteArray), .string (⟨#[71, 105]⟩ : ByteArray), .string (⟨#[84, 105]⟩ : ByteArray), .string (⟨#[80, 105]⟩ : ByteArray), .string (⟨#[69, 105]⟩ : ByteArray)]) (ok := fun _ => True) (okp := fun _ => True) ?hr ?hp (fun _ hk => hk) trivial (Below.refl _ _) (Nat.le_refl _) (by simp) ?_; (case hd => rfl); (case hg => rfl); (case hr => first | (go_simp; done) | (go_simp; rfl)); (case hp => exact (Reps.one (show Kd.M Kd.string _ _ _ (⟨#[75, 105]⟩ : ByteArray) [.string (⟨#[75, 105]⟩ : ByteArray)] from rfl) (Reps.one (show Kd.M Kd.string _ _ _ (⟨#[77, 105]⟩ : ByteArray) [.string (⟨#[77, 105]⟩ : ByteArray)] from rfl) (Reps.one (show Kd.M Kd.string _ _ _ (⟨#[71, 105]⟩ : ByteArray) [.string (⟨#[71, 105]⟩ : ByteArray)] from rfl) (Reps.one (show Kd.M Kd.string _ _ _ (⟨#[84, 105]⟩ : ByteArray) [.string (⟨#[84, 105]⟩ : ByteArray)] from rfl) (Reps.one (show Kd.M Kd.string _ _ _ (⟨#[80, 105]⟩ : ByteArray) [.string (⟨#[80, 105]⟩ : ByteArray)] from rfl) (Reps.one (show Kd.M Kd.string _ _ _ (⟨#[69, 105]⟩ : ByteArray) [.string (⟨#[69, 105]⟩ : ByteArray)] from rfl) (Reps.none _ _)))))))); intro vl wl ho hb hg_ hnew_; clear hg_ hnew_; have n0_ := Aside0.mk (Kd.R_lower ho (below_size (by repeat (first | (with_reducible first | exact HB.out | apply below_alloc | apply pw_below_drewN | apply below_drew1) | exact HB.out)))); have n1_ := Aside0.mk (below_step (by repeat (first | (with_reducible first | exact HB.out | apply below_alloc | apply pw_below_drewN | apply below_drew1) | exact HB.out)) hb); clear HB; have HO := n0_; have HB := n1_; clear n0_ n1_; clear hb ho; obtain ⟨Ao, co, eo⟩ := Kd.R_slice HO.out; subst eo) | ((with_reducible refine gate_callee (f := 9) rfl ?_); refine goesL_ (some 26) rfl rfl Tryd.func9 (by kernel_rfl) rfl #[.int .i64 a0, .int .u64 1024, .slice Ao (List.length unitsB) co] rfl (by (try simp only [List.map_toArray, List.map_cons, List.map_nil]); first | done | rfl | (simp only [List.length_drop, List.length_take]; rfl)) ?_; (with_reducible refine (impl_unitOf.calls k a0 1024 _ _ unitsB r _ (Lib.TabBelow.here (Lib.TabBelow.on HTB.out (by repeat (first | (with_reducible first | exact HB.out | apply below_alloc | apply pw_below_drewN | apply below_drew1) | exact HB.out)))) ?side1 ?side2 H.out).mono ?_); (case side1 => repeat (first | exact (Kd.R_reads' HO.out).2.2 | (with_reducible refine Kd.C_alloc ?_ _) | (with_reducible refine Kd.C_drewN ?_ _) | (with_reducible refine Kd.C_drew ?_))); (case side2 => exact (Kd.R_reads' HO.out).2.1); rintro e w29 ⟨rfl, hb⟩; refine ⟨_, rfl, ?_⟩; have n0_ := Aside0.mk (below_step (by repeat (first | (with_reducible first | exact HB.out | apply below_alloc | apply pw_below_drewN | apply below_drew1) | exact HB.out)) hb); clear HB; have HB := n0_; clear n0_ hb))
          go_ret
          exact ⟨by first | rfl | (simp [bne]; done) | (simp [*]; done), (by repeat (first | (with_reducible first | exact HB.out | apply below_alloc | apply pw_below_drewN | apply below_drew1) | exact HB.out))⟩
        · rw [if_neg d2] at H
          have d2b0 : (a1 == 2) = false := beq_eq_false_iff_ne.mpr d2
          clear d2
          by_cases d5 : a1 = 5
          · rw [if_pos d5] at H
            have d5b0 : (a1 == 5) = true := beq_iff_eq.mpr d5
            clear d5
            have H := Aside0.mk H
            go_wp2_with (first | ((with_reducible refine gate_dst (N := 30) rfl ?_); refine Kd.R_lit Kd.string _ 9 ?hg (N := 30) ?hd (xs := ([(⟨#[107]⟩ : ByteArray), (⟨#[77]⟩ : ByteArray), (⟨#[71]⟩ : ByteArray), (⟨#[84]⟩ : ByteArray), (⟨#[80]⟩ : ByteArray), (⟨#[69]⟩ : ByteArray)] : List ByteArray)) (inner := [.string (⟨#[107]⟩ : ByteArray), .string (⟨#[77]⟩ : ByteArray), .string (⟨#[71]⟩ : ByteArray), .string (⟨#[84]⟩ : ByteArray), .string (⟨#[80]⟩ : ByteArray), .string (⟨#[69]⟩ : ByteArray)]) (ok := fun _ => True) (okp := fun _ => True) ?hr ?hp (fun _ hk => hk) trivial (Below.refl _ _) (Nat.le_refl _) (by simp) ?_; (case hd => rfl); (case hg => rfl); (case hr => first | (go_simp; done) | (go_simp; rfl)); (case hp => exact (Reps.one (show Kd.M Kd.string _ _ _ (⟨#[107]⟩ : ByteArray) [.string (⟨#[107]⟩ : ByteArray)] from rfl) (Reps.one (show Kd.M Kd.string _ _ _ (⟨#[77]⟩ : ByteArray) [.string (⟨#[77]⟩ : ByteArray)] from rfl) (Reps.one (show Kd.M Kd.string _ _ _ (⟨#[71]⟩ : ByteArray) [.string (⟨#[71]⟩ : ByteArray)] from rfl) (Reps.one (show Kd.M Kd.string _ _ _ (⟨#[84]⟩ : ByteArray) [.string (⟨#[84]⟩ : ByteArray)] from rfl) (Reps.one (show Kd.M Kd.string _ _ _ (⟨#[80]⟩ : ByteArray) [.string (⟨#[80]⟩ : ByteArray)] from rfl) (Reps.one (show Kd.M Kd.string _ _ _ (⟨#[69]⟩ : ByteArray) [.string (⟨#[69]⟩ : ByteArray)] from rfl) (Reps.none _ _)))))))); intro vl wl ho hb hg_ hnew_; clear hg_ hnew_; have n0_ := Aside0.mk (Kd.R_lower ho (below_size (by repeat (first | (with_reducible first | exact HB.out | apply below_alloc | apply pw_below_drewN | apply below_drew1) | exact HB.out)))); have n1_ := Aside0.mk (below_step (by repeat (first | (with_reducible first | exact HB.out | apply below_alloc | apply pw_below_drewN | apply below_drew1) | exact HB.out)) hb); clear HB; have HO := n0_; have HB := n1_; clear n0_ n1_; clear hb ho; obtain ⟨Ao, co, eo⟩ := Kd.R_slice HO.out; subst eo) | ((with_reducible refine gate_callee (f := 9) rfl ?_); refine goesL_ (some 31) rfl rfl Tryd.func9 (by kernel_rfl) rfl #[.int .i64 a0, .int .u64 1000, .slice Ao (List.length unitsS) co] rfl (by (try simp only [List.map_toArray, List.map_cons, List.map_nil]); first | done | rfl | (simp only [List.length_drop, List.length_take]; rfl)) ?_; (with_reducible refine (impl_unitOf.calls k a0 1000 _ _ unitsS r _ (Lib.TabBelow.here (Lib.TabBelow.on HTB.out (by repeat (first | (with_reducible first | exact HB.out | apply below_alloc | apply pw_below_drewN | apply below_drew1) | exact HB.out)))) ?side1 ?side2 H.out).mono ?_); (case side1 => repeat (first | exact (Kd.R_reads' HO.out).2.2 | (with_reducible refine Kd.C_alloc ?_ _) | (with_reducible refine Kd.C_drewN ?_ _) | (with_reducible refine Kd.C_drew ?_))); (case side2 => exact (Kd.R_reads' HO.out).2.1); rintro e w29 ⟨rfl, hb⟩; refine ⟨_, rfl, ?_⟩; have n0_ := Aside0.mk (below_step (by repeat (first | (with_reducible first | exact HB.out | apply below_alloc | apply pw_below_drewN | apply below_drew1) | exact HB.out)) hb); clear HB; have HB := n0_; clear n0_ hb))
            go_ret
            exact ⟨by first | rfl | (simp [bne]; done) | (simp [*]; done), (by repeat (first | (with_reducible first | exact HB.out | apply below_alloc | apply pw_below_drewN | apply below_drew1) | exact HB.out))⟩
          · rw [if_neg d5] at H
            have d5b0 : (a1 == 5) = false := beq_eq_false_iff_ne.mpr d5
            clear d5
            by_cases d4 : a1 = 4
            · rw [if_pos d4] at H
              have d4b0 : (a1 == 4) = true := beq_iff_eq.mpr d4
              clear d4
              unfold impl_UnitText.share at H
              obtain ⟨t, A1, H⟩ := Option.bind_eq_some_iff.mp H
              obtain ⟨u, A2, H⟩ := Option.bind_eq_some_iff.mp H
              replace A1 := Aside0.mk A1
              replace A2 := Aside0.mk A2
              split at H
              · rename_i hz
                obtain rfl := Option.some.inj H
                have z1 : (9223372036854775807 < s.size + t.size) = False := eq_false (by omega)
                have z2 : (9223372036854775807 < s.size + t.size + 1) = False := eq_false (by omega)
                have z3 : (9223372036854775807 < s.size + t.size + 1 + u.size) = False := eq_false (by omega)
                have z4 : (9223372036854775807 < s.size + t.size + 1 + u.size + 1) = False := eq_false (by omega)
                clear hz
                go_wp2_with (first | ((with_reducible refine gate_callee (f := 8) rfl ?_); refine goesL_ (some 37) rfl rfl Tryd.func8 (by kernel_rfl) rfl #[.int .i64 (wrap64 (Int.tdiv v 10))] rfl (by (try simp only [List.map_toArray, List.map_cons, List.map_nil]); first | done | rfl | (simp only [List.length_drop, List.length_take]; rfl)) ?_; (with_reducible refine (impl_digitsOf.calls (wrap64 (Int.tdiv v 10)) t _ (Lib.TabBelow.here (Lib.TabBelow.on HTB.out (by repeat (first | (with_reducible first | exact HB.out | apply below_alloc | apply pw_below_drewN | apply below_drew1) | exact HB.out)))) A1.out).mono ?_); rintro e w' ⟨rfl, hb⟩; refine ⟨_, rfl, ?_⟩; have n0_ := Aside0.mk (below_step (by repeat (first | (with_reducible first | exact HB.out | apply below_alloc | apply pw_below_drewN | apply below_drew1) | exact HB.out)) hb); clear HB; have HB := n0_; clear n0_ hb) | ((with_reducible refine gate_callee (f := 8) rfl ?_); refine goesL_ (some 42) rfl rfl Tryd.func8 (by kernel_rfl) rfl #[.int .i64 (Int.tmod v 10)] rfl (by (try simp only [List.map_toArray, List.map_cons, List.map_nil]); first | done | rfl | (simp only [List.length_drop, List.length_take]; rfl)) ?_; (with_reducible refine (impl_digitsOf.calls (Int.tmod v 10) u _ (Lib.TabBelow.here (Lib.TabBelow.on HTB.out (by repeat (first | (with_reducible first | exact HB.out | apply below_alloc | apply pw_below_drewN | apply below_drew1) | exact HB.out)))) A2.out).mono ?_); rintro e w' ⟨rfl, hb⟩; refine ⟨_, rfl, ?_⟩; have n0_ := Aside0.mk (below_step (by repeat (first | (with_reducible first | exact HB.out | apply below_alloc | apply pw_below_drewN | apply below_drew1) | exact HB.out)) hb); clear HB; have HB := n0_; clear n0_ hb))
                go_ret
                exact ⟨by first | rfl | (simp [bne]; done) | (simp [*]; done), (by repeat (first | (with_reducible first | exact HB.out | apply below_alloc | apply pw_below_drewN | apply below_drew1) | exact HB.out))⟩
              · cases H
            · rw [if_neg d4] at H
              have d4b0 : (a1 == 4) = false := beq_eq_false_iff_ne.mpr d4
              clear d4
              by_cases d3 : a1 = 3
              · rw [if_pos d3] at H
                have d3b0 : (a1 == 3) = true := beq_iff_eq.mpr d3
                clear d3
                replace H := Aside0.mk H
                go_wp2
                generalize wrap64 (Int.tdiv v 86400) = n0 at H ⊢
                generalize Int.tmod (wrap64 (Int.tdiv v 3600)) 24 = n1 at H ⊢
                generalize Int.tmod (wrap64 (Int.tdiv v 60)) 60 = n2 at H ⊢
                generalize Int.tmod v 60 = n3 at H ⊢
                go_loopg [58] 4 (fun kq v58 w' => ∃ x : Int, v58 = .int .i64 x ∧ Aside0 ((kq : Int) + x = 4 ∧ 0 ≤ x) ∧ Aside0 ((0 < x → n0 = 0) ∧ (1 < x → n1 = 0) ∧ (2 < x → n2 = 0) ∧ (3 < x → n3 = 0)) ∧ Aside0 (Cells w' wc.heap.size n0 n1 n2 n3) ∧ Aside0 (Below wc.heap.size wc w'))
                case atStart => exact ⟨0, rfl, ⟨by decide⟩, ⟨by omega⟩, ⟨Cells.new wc n0 n1 n2 n3 _⟩, ⟨(by repeat (first | (with_reducible first | exact HB.out | apply below_alloc | apply pw_below_drewN | apply below_drew1) | exact HB.out))⟩⟩
                case round =>
                  clear HB
                  obtain ⟨x, rfl, HX, HZ, HC, HB⟩ := hrel
                  unfold impl_UnitText.time at H
                  obtain rfl | rfl | rfl | rfl | rfl : x = 0 ∨ x = 1 ∨ x = 2 ∨ x = 3 ∨ x = 4 := by have := HX.out; omega
                  · skip
                    replace H := H.out
                    have x0 := HC.out.1
                    by_cases e0 : n0 = 0
                    · have e1 : (n0 == 0) = true := beq_iff_eq.mpr e0
                      go_wp2
                      go_roundg 3
                      case measure => have := HX.out; omega
                      case rel => exact ⟨1, (by first | rfl | (simp; done)), ⟨by decide⟩, ⟨by omega⟩, ⟨HC.out⟩, ⟨(by repeat (first | (with_reducible first | exact HB.out | apply below_alloc | apply pw_below_drewN | apply below_drew1) | exact HB.out))⟩⟩
                    · have e1 : (n0 == 0) = false := beq_eq_false_iff_ne.mpr e0
                      rw [if_neg e0] at H
                      unfold impl_UnitText.at at H
                      obtain ⟨t, A1, H⟩ := Option.bind_eq_some_iff.mp H
                      replace A1 := Aside0.mk A1
                      split at H
                      case isFalse => cases H
                      rename_i z0
                      have z1 : (9223372036854775807 < s.size + t.size) = False := eq_false (by omega)
                      have z2 : (9223372036854775807 < s.size + t.size + 1) = False := eq_false (by omega)
                      clear e0
                      go_wp2
                      have n0_ := Aside0.mk (below_drew1 HB.out)
                      have m0_ := Aside0.mk (Cells.drew HC.out)
                      clear HB HC
                      have HB := n0_
                      have HC := m0_
                      clear n0_ m0_
                      have x0 := HC.out.1
                      refine start_ (n := 12) (S := fun w' => w'.cell? ⟨wc.heap.size, 0, none⟩ = some (.int .i64 n0)) (ds := []) #[false,false,false,false,false,false,false,false,false,false,false,false] (by kernel_rfl) rfl rfl (HC.out.1) (fun hHeld => ?_)
                      generalize wr.drew = w2 at hHeld HB HC x0 ⊢
                      refine pure_ (i := 0) (N := (some 65)) (v := ?_) (a' := ?_) #[true,false,false,false,false,false,false,false,false,false,false,false] rfl rfl (by kernel_rfl) (fun _ _ _ h => h) (Or.inl ⟨by rfl, ?_⟩) ?_ ?_
                      rotate_left
                      · intro w'
                        go_simp
                        with_reducible rfl
                      rotate_left
                      · simp only [Act.put, List.setIfInBounds_toArray, List.set_cons_zero, List.set_cons_succ, i64_w, i32_w]
                        rfl
                      refine pure_ (i := 1) (N := (some 66)) (v := ?_) (a' := ?_) #[true,true,false,false,false,false,false,false,false,false,false,false] rfl rfl (by kernel_rfl) (fun _ _ _ h => h) (Or.inl ⟨by rfl, ?_⟩) ?_ ?_
                      rotate_left
                      · intro w'
                        go_simp
                        with_reducible rfl
                      rotate_left
                      · simp only [Act.put, List.setIfInBounds_toArray, List.set_cons_zero, List.set_cons_succ, i64_w, i32_w]
                        rfl
                      refine pure_ (i := 2) (N := (some 67)) (v := ?_) (a' := ?_) #[true,true,true,false,false,false,false,false,false,false,false,false] rfl rfl (by kernel_rfl) (fun _ _ _ h => h) (Or.inl ⟨by rfl, ?_⟩) ?_ ?_
                      rotate_left
                      · intro w'
                        go_simp
                        with_reducible rfl
                      rotate_left
                      · simp only [Act.put, List.setIfInBounds_toArray, List.set_cons_zero, List.set_cons_succ, i64_w, i32_w]
                        rfl
                      refine pure_ (i := 6) (N := (some 71)) (v := ?_) (a' := ?_) #[true,true,true,false,false,false,true,false,false,false,false,false] rfl rfl (by kernel_rfl) (fun _ _ _ h => h) (Or.inl ⟨by rfl, ?_⟩) ?_ ?_
                      rotate_left
                      · intro w'
                        go_simp
                        with_reducible rfl
                      rotate_left
                      · simp only [Act.put, List.setIfInBounds_toArray, List.set_cons_zero, List.set_cons_succ, i64_w, i32_w]
                        rfl
                      refine pure_ (i := 7) (N := (some 72)) (v := ?_) (a' := ?_) #[true,true,true,false,false,false,true,true,false,false,false,false] rfl rfl (by kernel_rfl) (fun _ _ _ h => h) (Or.inl ⟨by rfl, ?_⟩) ?_ ?_
                      rotate_left
                      · intro w'
                        go_simp
                        with_reducible rfl
                      rotate_left
                      · simp only [Act.put, List.setIfInBounds_toArray, List.set_cons_zero, List.set_cons_succ, i64_w, i32_w]
                        rfl
                      refine pure_ (i := 8) (N := (some 73)) (v := ?_) (a' := ?_) #[true,true,true,false,false,false,true,true,true,false,false,false] rfl rfl (by kernel_rfl) (fun _ _ _ h => h) (Or.inl ⟨by rfl, ?_⟩) ?_ ?_
                      rotate_left
                      · intro w'
                        go_simp
                        with_reducible rfl
                      rotate_left
                      · simp only [Act.put, List.setIfInBounds_toArray, List.set_cons_zero, List.set_cons_succ, i64_w, i32_w]
                        rfl
                      refine pure_ (i := 9) (N := (some 74)) (v := .string (⟨#[100]⟩ : ByteArray)) (a' := ?_) #[true,true,true,false,false,false,true,true,true,true,false,false] rfl rfl (by kernel_rfl) (fun _ _ _ h => h) (Or.inl ⟨by rfl, ?_⟩) ?_ ?_
                      · intro w'
                        go_simp
                        first | done | rfl | (rw [if_pos (by decide), if_pos (by decide)]; rfl) | (congr 3; done) | (congr 3; kernel_rfl)
                      rotate_left
                      · simp only [Act.put, List.setIfInBounds_toArray, List.set_cons_zero, List.set_cons_succ, i64_w, i32_w]
                        rfl
                      refine take_ (i := 3) (N := (some 68)) (v := ?_) (a' := ?_) #[true,true,true,true,false,false,true,true,true,true,false,false] rfl rfl (by kernel_rfl) (fun _ _ _ h => h) (Or.inl ⟨by rfl, ?_⟩) hHeld ?_ ?_
                      rotate_left
                      · intro w' s0
                        go_simp
                        with_reducible rfl
                      rotate_left
                      · simp only [Act.put, List.setIfInBounds_toArray, List.set_cons_zero, List.set_cons_succ, i64_w, i32_w]
                        rfl
                      refine one_ (i := 4) (N := (some 69)) #[true,true,true,true,true,false,true,true,true,true,false,false] rfl rfl (by kernel_rfl) (by decide) (fun K hK => ?_)
                      refine goes_ Tryd.func8 (by kernel_rfl) rfl #[.int .i64 n0] (by rfl) rfl rfl (by (try simp only [List.map_toArray, List.map_cons, List.map_nil]); first | done | rfl | (go_simp; done)) ?_
                      with_reducible refine (impl_digitsOf.calls n0 t _ (Lib.TabBelow.here (Lib.TabBelow.on HTB.out (by repeat (first | (with_reducible first | exact HB.out | apply below_alloc | apply pw_below_drewN | apply below_drew1) | exact HB.out)))) A1.out).mono ?_
                      rintro e w4 ⟨rfl, hb⟩
                      refine ⟨_, rfl, ?_⟩
                      have n0_ := Aside0.mk (below_step (by repeat (first | (with_reducible first | exact HB.out | apply below_alloc | apply pw_below_drewN | apply below_drew1) | exact HB.out)) hb)
                      have m0_ := Aside0.mk (Cells.below HC.out hb)
                      clear HB HC hb
                      have HB := n0_
                      have HC := m0_
                      clear n0_ m0_
                      refine hK.out _ _ (HC.out.1) (fun hHeld2 => ?_)
                      clear hK K hHeld
                      have hHeld := hHeld2
                      clear hHeld2
                      refine norm_ (a' := ?_) ?_ ?_
                      rotate_left
                      · show Act.put _ (some 69) _ = _
                        simp only [Act.put, List.setIfInBounds_toArray, List.set_cons_zero, List.set_cons_succ, i64_w, i32_w]
                        rfl
                      refine pure_ (i := 5) (N := (some 70)) (v := ?_) (a' := ?_) #[true,true,true,true,true,true,true,true,true,true,false,false] rfl rfl (by kernel_rfl) (fun _ _ _ h => h) (Or.inl ⟨by rfl, ?_⟩) ?_ ?_
                      rotate_left
                      · intro w'
                        go_simp
                        with_reducible rfl
                      rotate_left
                      · simp only [Act.put, List.setIfInBounds_toArray, List.set_cons_zero, List.set_cons_succ, i64_w, i32_w]
                        rfl
                      refine pure_ (i := 10) (N := (some 75)) (v := ?_) (a' := ?_) #[true,true,true,true,true,true,true,true,true,true,true,false] rfl rfl (by kernel_rfl) (fun _ _ _ h => h) (Or.inl ⟨by rfl, ?_⟩) ?_ ?_
                      rotate_left
                      · intro w'
                        go_simp
                        with_reducible rfl
                      rotate_left
                      · simp only [Act.put, List.setIfInBounds_toArray, List.set_cons_zero, List.set_cons_succ, i64_w, i32_w]
                        rfl
                      refine pure_ (i := 11) (N := (some 9)) (v := ?_) (a' := ?_) #[true,true,true,true,true,true,true,true,true,true,true,true] rfl rfl (by kernel_rfl) (fun _ _ _ h => h) (Or.inl ⟨by rfl, ?_⟩) ?_ ?_
                      rotate_left
                      · intro w'
                        go_simp
                        with_reducible rfl
                      rotate_left
                      · simp only [Act.put, List.setIfInBounds_toArray, List.set_cons_zero, List.set_cons_succ, i64_w, i32_w]
                        rfl
                      refine done_ (by kernel_rfl) ?_
                      clear x0 hHeld
                      by_cases e2 : n1 = 0
                      · rw [if_pos e2] at H
                        have e3 : (n1 == 0) = true := beq_iff_eq.mpr e2
                        have e4 : (n1 != 0) = false := bne_eq_false_iff_eq.mpr e2
                        obtain rfl := Option.some.inj H
                        have x1 := HC.out.2.1
                        clear e2
                        go_wp2
                        go_ret
                        exact ⟨by first | rfl | (simp [bne]; done) | (simp [*]; done), (by repeat (first | (with_reducible first | exact HB.out | apply below_alloc | apply pw_below_drewN | apply below_drew1) | exact HB.out))⟩
                      · rw [if_neg e2] at H
                        have e3 : (n1 == 0) = false := beq_eq_false_iff_ne.mpr e2
                        have e4 : (n1 != 0) = true := bne_iff_ne.mpr e2
                        clear e2
                        obtain ⟨u, A2, H⟩ := Option.bind_eq_some_iff.mp H
                        replace A2 := Aside0.mk A2
                        split at H
                        case isFalse => cases H
                        rename_i z3
                        obtain rfl := Option.some.inj H
                        have z4 : (9223372036854775807 < u.size + 1) = False := eq_false (by omega)
                        have z5 : (9223372036854775807 < s.size + t.size + 1 + (u.size + 1)) = False := eq_false (by omega)
                        have x1 := HC.out.2.1
                        go_wp2
                        have n0_ := Aside0.mk (below_drew1 HB.out)
                        have m0_ := Aside0.mk (Cells.drew HC.out)
                        clear HB HC
                        have HB := n0_
                        have HC := m0_
                        clear n0_ m0_
                        replace x1 := HC.out.2.1
                        refine start_ (n := 14) (S := fun w' => w'.cell? ⟨wc.heap.size, 1, none⟩ = some (.int .i64 n1)) (ds := []) #[false,false,false,false,false,false,false,false,false,false,false,false,false,false] (by kernel_rfl) rfl rfl (HC.out.2.1) (fun hHeld => ?_)
                        generalize w4.drew = w6 at hHeld HB HC x1 ⊢
                        refine pure_ (i := 0) (N := (some 81)) (v := ?_) (a' := ?_) #[true,false,false,false,false,false,false,false,false,false,false,false,false,false] rfl rfl (by kernel_rfl) (fun _ _ _ h => h) (Or.inl ⟨by rfl, ?_⟩) ?_ ?_
                        rotate_left
                        · intro w'
                          go_simp
                          with_reducible rfl
                        rotate_left
                        · simp only [Act.put, List.setIfInBounds_toArray, List.set_cons_zero, List.set_cons_succ, i64_w, i32_w]
                          rfl
                        refine pure_ (i := 1) (N := (some 82)) (v := ?_) (a' := ?_) #[true,true,false,false,false,false,false,false,false,false,false,false,false,false] rfl rfl (by kernel_rfl) (fun _ _ _ h => h) (Or.inl ⟨by rfl, ?_⟩) ?_ ?_
                        rotate_left
                        · intro w'
                          go_simp
                          with_reducible rfl
                        rotate_left
                        · simp only [Act.put, List.setIfInBounds_toArray, List.set_cons_zero, List.set_cons_succ, i64_w, i32_w]
                          rfl
                        refine pure_ (i := 2) (N := (some 83)) (v := ?_) (a' := ?_) #[true,true,true,false,false,false,false,false,false,false,false,false,false,false] rfl rfl (by kernel_rfl) (fun _ _ _ h => h) (Or.inl ⟨by rfl, ?_⟩) ?_ ?_
                        rotate_left
                        · intro w'
                          go_simp
                          with_reducible rfl
                        rotate_left
                        · simp only [Act.put, List.setIfInBounds_toArray, List.set_cons_zero, List.set_cons_succ, i64_w, i32_w]
                          rfl
                        refine pure_ (i := 3) (N := (some 84)) (v := ?_) (a' := ?_) #[true,true,true,true,false,false,false,false,false,false,false,false,false,false] rfl rfl (by kernel_rfl) (fun _ _ _ h => h) (Or.inl ⟨by rfl, ?_⟩) ?_ ?_
                        rotate_left
                        · intro w'
                          go_simp
                          with_reducible rfl
                        rotate_left
                        · simp only [Act.put, List.setIfInBounds_toArray, List.set_cons_zero, List.set_cons_succ, i64_w, i32_w]
                          rfl
                        refine pure_ (i := 6) (N := (some 87)) (v := ?_) (a' := ?_) #[true,true,true,true,false,false,true,false,false,false,false,false,false,false] rfl rfl (by kernel_rfl) (fun _ _ _ h => h) (Or.inl ⟨by rfl, ?_⟩) ?_ ?_
                        rotate_left
                        · intro w'
                          go_simp
                          with_reducible rfl
                        rotate_left
                        · simp only [Act.put, List.setIfInBounds_toArray, List.set_cons_zero, List.set_cons_succ, i64_w, i32_w]
                          rfl
                        refine pure_ (i := 7) (N := (some 88)) (v := ?_) (a' := ?_) #[true,true,true,true,false,false,true,true,false,false,false,false,false,false] rfl rfl (by kernel_rfl) (fun _ _ _ h => h) (Or.inl ⟨by rfl, ?_⟩) ?_ ?_
                        rotate_left
                        · intro w'
                          go_simp
                          with_reducible rfl
                        rotate_left
                        · simp only [Act.put, List.setIfInBounds_toArray, List.set_cons_zero, List.set_cons_succ, i64_w, i32_w]
                          rfl
                        refine pure_ (i := 8) (N := (some 89)) (v := ?_) (a' := ?_) #[true,true,true,true,false,false,true,true,true,false,false,false,false,false] rfl rfl (by kernel_rfl) (fun _ _ _ h => h) (Or.inl ⟨by rfl, ?_⟩) ?_ ?_
                        rotate_left
                        · intro w'
                          go_simp
                          with_reducible rfl
                        rotate_left
                        · simp only [Act.put, List.setIfInBounds_toArray, List.set_cons_zero, List.set_cons_succ, i64_w, i32_w]
                          rfl
                        refine pure_ (i := 9) (N := (some 90)) (v := ?_) (a' := ?_) #[true,true,true,true,false,false,true,true,true,true,false,false,false,false] rfl rfl (by kernel_rfl) (fun _ _ _ h => h) (Or.inl ⟨by rfl, ?_⟩) ?_ ?_
                        rotate_left
                        · intro w'
                          go_simp
                          with_reducible rfl
                        rotate_left
                        · simp only [Act.put, List.setIfInBounds_toArray, List.set_cons_zero, List.set_cons_succ, i64_w, i32_w]
                          rfl
                        refine pure_ (i := 10) (N := (some 91)) (v := .string (⟨#[104]⟩ : ByteArray)) (a' := ?_) #[true,true,true,true,false,false,true,true,true,true,true,false,false,false] rfl rfl (by kernel_rfl) (fun _ _ _ h => h) (Or.inl ⟨by rfl, ?_⟩) ?_ ?_
                        · intro w'
                          go_simp
                          first | done | rfl | (rw [if_pos (by decide), if_pos (by decide)]; rfl) | (congr 3; done) | (congr 3; kernel_rfl)
                        rotate_left
                        · simp only [Act.put, List.setIfInBounds_toArray, List.set_cons_zero, List.set_cons_succ, i64_w, i32_w]
                          rfl
                        refine take_ (i := 4) (N := (some 85)) (v := ?_) (a' := ?_) #[true,true,true,true,true,false,true,true,true,true,true,false,false,false] rfl rfl (by kernel_rfl) (fun _ _ _ h => h) (Or.inl ⟨by rfl, ?_⟩) hHeld ?_ ?_
                        rotate_left
                        · intro w' s0
                          go_simp
                          with_reducible rfl
                        rotate_left
                        · simp only [Act.put, List.setIfInBounds_toArray, List.set_cons_zero, List.set_cons_succ, i64_w, i32_w]
                          rfl
                        refine one_ (i := 5) (N := (some 86)) #[true,true,true,true,true,true,true,true,true,true,true,false,false,false] rfl rfl (by kernel_rfl) (by decide) (fun K hK => ?_)
                        refine goes_ Tryd.func8 (by kernel_rfl) rfl #[.int .i64 n1] (by rfl) rfl rfl (by (try simp only [List.map_toArray, List.map_cons, List.map_nil]); first | done | rfl | (go_simp; done)) ?_
                        with_reducible refine (impl_digitsOf.calls n1 u _ (Lib.TabBelow.here (Lib.TabBelow.on HTB.out (by repeat (first | (with_reducible first | exact HB.out | apply below_alloc | apply pw_below_drewN | apply below_drew1) | exact HB.out)))) A2.out).mono ?_
                        rintro e w5 ⟨rfl, hb⟩
                        refine ⟨_, rfl, ?_⟩
                        have n0_ := Aside0.mk (below_step (by repeat (first | (with_reducible first | exact HB.out | apply below_alloc | apply pw_below_drewN | apply below_drew1) | exact HB.out)) hb)
                        have m0_ := Aside0.mk (Cells.below HC.out hb)
                        clear HB HC hb
                        have HB := n0_
                        have HC := m0_
                        clear n0_ m0_
                        refine hK.out _ _ (HC.out.2.1) (fun hHeld2 => ?_)
                        clear hK K hHeld
                        have hHeld := hHeld2
                        clear hHeld2
                        refine norm_ (a' := ?_) ?_ ?_
                        rotate_left
                        · show Act.put _ (some 86) _ = _
                          simp only [Act.put, List.setIfInBounds_toArray, List.set_cons_zero, List.set_cons_succ, i64_w, i32_w]
                          rfl
                        refine pure_ (i := 11) (N := (some 92)) (v := ?_) (a' := ?_) #[true,true,true,true,true,true,true,true,true,true,true,true,false,false] rfl rfl (by kernel_rfl) (fun _ _ _ h => h) (Or.inl ⟨by rfl, ?_⟩) ?_ ?_
                        rotate_left
                        · intro w'
                          go_simp
                          with_reducible rfl
                        rotate_left
                        · simp only [Act.put, List.setIfInBounds_toArray, List.set_cons_zero, List.set_cons_succ, i64_w, i32_w]
                          rfl
                        refine pure_ (i := 12) (N := (some 93)) (v := ?_) (a' := ?_) #[true,true,true,true,true,true,true,true,true,true,true,true,true,false] rfl rfl (by kernel_rfl) (fun _ _ _ h => h) (Or.inl ⟨by rfl, ?_⟩) ?_ ?_
                        rotate_left
                        · intro w'
                          go_simp
                          with_reducible rfl
                        rotate_left
                        · simp only [Act.put, List.setIfInBounds_toArray, List.set_cons_zero, List.set_cons_succ, i64_w, i32_w]
                          rfl
                        refine pure_ (i := 13) (N := (some 9)) (v := ?_) (a' := ?_) #[true,true,true,true,true,true,true,true,true,true,true,true,true,true] rfl rfl (by kernel_rfl) (fun _ _ _ h => h) (Or.inl ⟨by rfl, ?_⟩) ?_ ?_
                        rotate_left
                        · intro w'
                          go_simp
                          with_reducible rfl
                        rotate_left
                        · simp only [Act.put, List.setIfInBounds_toArray, List.set_cons_zero, List.set_cons_succ, i64_w, i32_w]
                          rfl
                        refine done_ (by kernel_rfl) ?_
                        try go_wp2
                        go_ret
                        exact ⟨by first | rfl | (simp [bne]; done) | (simp [*]; done), (by repeat (first | (with_reducible first | exact HB.out | apply below_alloc | apply pw_below_drewN | apply below_drew1) | exact HB.out))⟩
                  · skip
                    have y0 : n0 = 0 := HZ.out.1 (by decide)
                    replace H := H.out
                    rw [if_pos y0] at H
                    have x1 := HC.out.2.1
                    by_cases e0 : n1 = 0
                    · have e1 : (n1 == 0) = true := beq_iff_eq.mpr e0
                      go_wp2
                      go_roundg 2
                      case measure => have := HX.out; omega
                      case rel => exact ⟨2, (by first | rfl | (simp; done)), ⟨by decide⟩, ⟨by omega⟩, ⟨HC.out⟩, ⟨(by repeat (first | (with_reducible first | exact HB.out | apply below_alloc | apply pw_below_drewN | apply below_drew1) | exact HB.out))⟩⟩
                    · have e1 : (n1 == 0) = false := beq_eq_false_iff_ne.mpr e0
                      rw [if_neg e0] at H
                      unfold impl_UnitText.at at H
                      obtain ⟨t, A1, H⟩ := Option.bind_eq_some_iff.mp H
                      replace A1 := Aside0.mk A1
                      split at H
                      case isFalse => cases H
                      rename_i z0
                      have z1 : (9223372036854775807 < s.size + t.size) = False := eq_false (by omega)
                      have z2 : (9223372036854775807 < s.size + t.size + 1) = False := eq_false (by omega)
                      clear e0
                      go_wp2
                      have n0_ := Aside0.mk (below_drew1 HB.out)
                      have m0_ := Aside0.mk (Cells.drew HC.out)
                      clear HB HC
                      have HB := n0_
                      have HC := m0_
                      clear n0_ m0_
                      have x1 := HC.out.2.1
                      refine start_ (n := 12) (S := fun w' => w'.cell? ⟨wc.heap.size, 1, none⟩ = some (.int .i64 n1)) (ds := []) #[false,false,false,false,false,false,false,false,false,false,false,false] (by kernel_rfl) rfl rfl (HC.out.2.1) (fun hHeld => ?_)
                      generalize wr.drew = w2 at hHeld HB HC x1 ⊢
                      refine pure_ (i := 0) (N := (some 65)) (v := ?_) (a' := ?_) #[true,false,false,false,false,false,false,false,false,false,false,false] rfl rfl (by kernel_rfl) (fun _ _ _ h => h) (Or.inl ⟨by rfl, ?_⟩) ?_ ?_
                      rotate_left
                      · intro w'
                        go_simp
                        with_reducible rfl
                      rotate_left
                      · simp only [Act.put, List.setIfInBounds_toArray, List.set_cons_zero, List.set_cons_succ, i64_w, i32_w]
                        rfl
                      refine pure_ (i := 1) (N := (some 66)) (v := ?_) (a' := ?_) #[true,true,false,false,false,false,false,false,false,false,false,false] rfl rfl (by kernel_rfl) (fun _ _ _ h => h) (Or.inl ⟨by rfl, ?_⟩) ?_ ?_
                      rotate_left
                      · intro w'
                        go_simp
                        with_reducible rfl
                      rotate_left
                      · simp only [Act.put, List.setIfInBounds_toArray, List.set_cons_zero, List.set_cons_succ, i64_w, i32_w]
                        rfl
                      refine pure_ (i := 2) (N := (some 67)) (v := ?_) (a' := ?_) #[true,true,true,false,false,false,false,false,false,false,false,false] rfl rfl (by kernel_rfl) (fun _ _ _ h => h) (Or.inl ⟨by rfl, ?_⟩) ?_ ?_
                      rotate_left
                      · intro w'
                        go_simp
                        with_reducible rfl
                      rotate_left
                      · simp only [Act.put, List.setIfInBounds_toArray, List.set_cons_zero, List.set_cons_succ, i64_w, i32_w]
                        rfl
                      refine pure_ (i := 6) (N := (some 71)) (v := ?_) (a' := ?_) #[true,true,true,false,false,false,true,false,false,false,false,false] rfl rfl (by kernel_rfl) (fun _ _ _ h => h) (Or.inl ⟨by rfl, ?_⟩) ?_ ?_
                      rotate_left
                      · intro w'
                        go_simp
                        with_reducible rfl
                      rotate_left
                      · simp only [Act.put, List.setIfInBounds_toArray, List.set_cons_zero, List.set_cons_succ, i64_w, i32_w]
                        rfl
                      refine pure_ (i := 7) (N := (some 72)) (v := ?_) (a' := ?_) #[true,true,true,false,false,false,true,true,false,false,false,false] rfl rfl (by kernel_rfl) (fun _ _ _ h => h) (Or.inl ⟨by rfl, ?_⟩) ?_ ?_
                      rotate_left
                      · intro w'
                        go_simp
                        with_reducible rfl
                      rotate_left
                      · simp only [Act.put, List.setIfInBounds_toArray, List.set_cons_zero, List.set_cons_succ, i64_w, i32_w]
                        rfl
                      refine pure_ (i := 8) (N := (some 73)) (v := ?_) (a' := ?_) #[true,true,true,false,false,false,true,true,true,false,false,false] rfl rfl (by kernel_rfl) (fun _ _ _ h => h) (Or.inl ⟨by rfl, ?_⟩) ?_ ?_
                      rotate_left
                      · intro w'
                        go_simp
                        with_reducible rfl
                      rotate_left
                      · simp only [Act.put, List.setIfInBounds_toArray, List.set_cons_zero, List.set_cons_succ, i64_w, i32_w]
                        rfl
                      refine pure_ (i := 9) (N := (some 74)) (v := .string (⟨#[104]⟩ : ByteArray)) (a' := ?_) #[true,true,true,false,false,false,true,true,true,true,false,false] rfl rfl (by kernel_rfl) (fun _ _ _ h => h) (Or.inl ⟨by rfl, ?_⟩) ?_ ?_
                      · intro w'
                        go_simp
                        first | done | rfl | (rw [if_pos (by decide), if_pos (by decide)]; rfl) | (congr 3; done) | (congr 3; kernel_rfl)
                      rotate_left
                      · simp only [Act.put, List.setIfInBounds_toArray, List.set_cons_zero, List.set_cons_succ, i64_w, i32_w]
                        rfl
                      refine take_ (i := 3) (N := (some 68)) (v := ?_) (a' := ?_) #[true,true,true,true,false,false,true,true,true,true,false,false] rfl rfl (by kernel_rfl) (fun _ _ _ h => h) (Or.inl ⟨by rfl, ?_⟩) hHeld ?_ ?_
                      rotate_left
                      · intro w' s0
                        go_simp
                        with_reducible rfl
                      rotate_left
                      · simp only [Act.put, List.setIfInBounds_toArray, List.set_cons_zero, List.set_cons_succ, i64_w, i32_w]
                        rfl
                      refine one_ (i := 4) (N := (some 69)) #[true,true,true,true,true,false,true,true,true,true,false,false] rfl rfl (by kernel_rfl) (by decide) (fun K hK => ?_)
                      refine goes_ Tryd.func8 (by kernel_rfl) rfl #[.int .i64 n1] (by rfl) rfl rfl (by (try simp only [List.map_toArray, List.map_cons, List.map_nil]); first | done | rfl | (go_simp; done)) ?_
                      with_reducible refine (impl_digitsOf.calls n1 t _ (Lib.TabBelow.here (Lib.TabBelow.on HTB.out (by repeat (first | (with_reducible first | exact HB.out | apply below_alloc | apply pw_below_drewN | apply below_drew1) | exact HB.out)))) A1.out).mono ?_
                      rintro e w4 ⟨rfl, hb⟩
                      refine ⟨_, rfl, ?_⟩
                      have n0_ := Aside0.mk (below_step (by repeat (first | (with_reducible first | exact HB.out | apply below_alloc | apply pw_below_drewN | apply below_drew1) | exact HB.out)) hb)
                      have m0_ := Aside0.mk (Cells.below HC.out hb)
                      clear HB HC hb
                      have HB := n0_
                      have HC := m0_
                      clear n0_ m0_
                      refine hK.out _ _ (HC.out.2.1) (fun hHeld2 => ?_)
                      clear hK K hHeld
                      have hHeld := hHeld2
                      clear hHeld2
                      refine norm_ (a' := ?_) ?_ ?_
                      rotate_left
                      · show Act.put _ (some 69) _ = _
                        simp only [Act.put, List.setIfInBounds_toArray, List.set_cons_zero, List.set_cons_succ, i64_w, i32_w]
                        rfl
                      refine pure_ (i := 5) (N := (some 70)) (v := ?_) (a' := ?_) #[true,true,true,true,true,true,true,true,true,true,false,false] rfl rfl (by kernel_rfl) (fun _ _ _ h => h) (Or.inl ⟨by rfl, ?_⟩) ?_ ?_
                      rotate_left
                      · intro w'
                        go_simp
                        with_reducible rfl
                      rotate_left
                      · simp only [Act.put, List.setIfInBounds_toArray, List.set_cons_zero, List.set_cons_succ, i64_w, i32_w]
                        rfl
                      refine pure_ (i := 10) (N := (some 75)) (v := ?_) (a' := ?_) #[true,true,true,true,true,true,true,true,true,true,true,false] rfl rfl (by kernel_rfl) (fun _ _ _ h => h) (Or.inl ⟨by rfl, ?_⟩) ?_ ?_
                      rotate_left
                      · intro w'
                        go_simp
                        with_reducible rfl
                      rotate_left
                      · simp only [Act.put, List.setIfInBounds_toArray, List.set_cons_zero, List.set_cons_succ, i64_w, i32_w]
                        rfl
                      refine pure_ (i := 11) (N := (some 9)) (v := ?_) (a' := ?_) #[true,true,true,true,true,true,true,true,true,true,true,true] rfl rfl (by kernel_rfl) (fun _ _ _ h => h) (Or.inl ⟨by rfl, ?_⟩) ?_ ?_
                      rotate_left
                      · intro w'
                        go_simp
                        with_reducible rfl
                      rotate_left
                      · simp only [Act.put, List.setIfInBounds_toArray, List.set_cons_zero, List.set_cons_succ, i64_w, i32_w]
                        rfl
                      refine done_ (by kernel_rfl) ?_
                      clear x1 hHeld
                      by_cases e2 : n2 = 0
                      · rw [if_pos e2] at H
                        have e3 : (n2 == 0) = true := beq_iff_eq.mpr e2
                        have e4 : (n2 != 0) = false := bne_eq_false_iff_eq.mpr e2
                        obtain rfl := Option.some.inj H
                        have x2 := HC.out.2.2.1
                        clear e2
                        go_wp2
                        go_ret
                        exact ⟨by first | rfl | (simp [bne]; done) | (simp [*]; done), (by repeat (first | (with_reducible first | exact HB.out | apply below_alloc | apply pw_below_drewN | apply below_drew1) | exact HB.out))⟩
                      · rw [if_neg e2] at H
                        have e3 : (n2 == 0) = false := beq_eq_false_iff_ne.mpr e2
                        have e4 : (n2 != 0) = true := bne_iff_ne.mpr e2
                        clear e2
                        obtain ⟨u, A2, H⟩ := Option.bind_eq_some_iff.mp H
                        replace A2 := Aside0.mk A2
                        split at H
                        case isFalse => cases H
                        rename_i z3
                        obtain rfl := Option.some.inj H
                        have z4 : (9223372036854775807 < u.size + 1) = False := eq_false (by omega)
                        have z5 : (9223372036854775807 < s.size + t.size + 1 + (u.size + 1)) = False := eq_false (by omega)
                        have x2 := HC.out.2.2.1
                        go_wp2
                        have n0_ := Aside0.mk (below_drew1 HB.out)
                        have m0_ := Aside0.mk (Cells.drew HC.out)
                        clear HB HC
                        have HB := n0_
                        have HC := m0_
                        clear n0_ m0_
                        replace x2 := HC.out.2.2.1
                        refine start_ (n := 14) (S := fun w' => w'.cell? ⟨wc.heap.size, 2, none⟩ = some (.int .i64 n2)) (ds := []) #[false,false,false,false,false,false,false,false,false,false,false,false,false,false] (by kernel_rfl) rfl rfl (HC.out.2.2.1) (fun hHeld => ?_)
                        generalize w4.drew = w6 at hHeld HB HC x2 ⊢
                        refine pure_ (i := 0) (N := (some 81)) (v := ?_) (a' := ?_) #[true,false,false,false,false,false,false,false,false,false,false,false,false,false] rfl rfl (by kernel_rfl) (fun _ _ _ h => h) (Or.inl ⟨by rfl, ?_⟩) ?_ ?_
                        rotate_left
                        · intro w'
                          go_simp
                          with_reducible rfl
                        rotate_left
                        · simp only [Act.put, List.setIfInBounds_toArray, List.set_cons_zero, List.set_cons_succ, i64_w, i32_w]
                          rfl
                        refine pure_ (i := 1) (N := (some 82)) (v := ?_) (a' := ?_) #[true,true,false,false,false,false,false,false,false,false,false,false,false,false] rfl rfl (by kernel_rfl) (fun _ _ _ h => h) (Or.inl ⟨by rfl, ?_⟩) ?_ ?_
                        rotate_left
                        · intro w'
                          go_simp
                          with_reducible rfl
                        rotate_left
                        · simp only [Act.put, List.setIfInBounds_toArray, List.set_cons_zero, List.set_cons_succ, i64_w, i32_w]
                          rfl
                        refine pure_ (i := 2) (N := (some 83)) (v := ?_) (a' := ?_) #[true,true,true,false,false,false,false,false,false,false,false,false,false,false] rfl rfl (by kernel_rfl) (fun _ _ _ h => h) (Or.inl ⟨by rfl, ?_⟩) ?_ ?_
                        rotate_left
                        · intro w'
                          go_simp
                          with_reducible rfl
                        rotate_left
                        · simp only [Act.put, List.setIfInBounds_toArray, List.set_cons_zero, List.set_cons_succ, i64_w, i32_w]
                          rfl
                        refine pure_ (i := 3) (N := (some 84)) (v := ?_) (a' := ?_) #[true,true,true,true,false,false,false,false,false,false,false,false,false,false] rfl rfl (by kernel_rfl) (fun _ _ _ h => h) (Or.inl ⟨by rfl, ?_⟩) ?_ ?_
                        rotate_left
                        · intro w'
                          go_simp
                          with_reducible rfl
                        rotate_left
                        · simp only [Act.put, List.setIfInBounds_toArray, List.set_cons_zero, List.set_cons_succ, i64_w, i32_w]
                          rfl
                        refine pure_ (i := 6) (N := (some 87)) (v := ?_) (a' := ?_) #[true,true,true,true,false,false,true,false,false,false,false,false,false,false] rfl rfl (by kernel_rfl) (fun _ _ _ h => h) (Or.inl ⟨by rfl, ?_⟩) ?_ ?_
                        rotate_left
                        · intro w'
                          go_simp
                          with_reducible rfl
                        rotate_left
                        · simp only [Act.put, List.setIfInBounds_toArray, List.set_cons_zero, List.set_cons_succ, i64_w, i32_w]
                          rfl
                        refine pure_ (i := 7) (N := (some 88)) (v := ?_) (a' := ?_) #[true,true,true,true,false,false,true,true,false,false,false,false,false,false] rfl rfl (by kernel_rfl) (fun _ _ _ h => h) (Or.inl ⟨by rfl, ?_⟩) ?_ ?_
                        rotate_left
                        · intro w'
                          go_simp
                          with_reducible rfl
                        rotate_left
                        · simp only [Act.put, List.setIfInBounds_toArray, List.set_cons_zero, List.set_cons_succ, i64_w, i32_w]
                          rfl
                        refine pure_ (i := 8) (N := (some 89)) (v := ?_) (a' := ?_) #[true,true,true,true,false,false,true,true,true,false,false,false,false,false] rfl rfl (by kernel_rfl) (fun _ _ _ h => h) (Or.inl ⟨by rfl, ?_⟩) ?_ ?_
                        rotate_left
                        · intro w'
                          go_simp
                          with_reducible rfl
                        rotate_left
                        · simp only [Act.put, List.setIfInBounds_toArray, List.set_cons_zero, List.set_cons_succ, i64_w, i32_w]
                          rfl
                        refine pure_ (i := 9) (N := (some 90)) (v := ?_) (a' := ?_) #[true,true,true,true,false,false,true,true,true,true,false,false,false,false] rfl rfl (by kernel_rfl) (fun _ _ _ h => h) (Or.inl ⟨by rfl, ?_⟩) ?_ ?_
                        rotate_left
                        · intro w'
                          go_simp
                          with_reducible rfl
                        rotate_left
                        · simp only [Act.put, List.setIfInBounds_toArray, List.set_cons_zero, List.set_cons_succ, i64_w, i32_w]
                          rfl
                        refine pure_ (i := 10) (N := (some 91)) (v := .string (⟨#[109]⟩ : ByteArray)) (a' := ?_) #[true,true,true,true,false,false,true,true,true,true,true,false,false,false] rfl rfl (by kernel_rfl) (fun _ _ _ h => h) (Or.inl ⟨by rfl, ?_⟩) ?_ ?_
                        · intro w'
                          go_simp
                          first | done | rfl | (rw [if_pos (by decide), if_pos (by decide)]; rfl) | (congr 3; done) | (congr 3; kernel_rfl)
                        rotate_left
                        · simp only [Act.put, List.setIfInBounds_toArray, List.set_cons_zero, List.set_cons_succ, i64_w, i32_w]
                          rfl
                        refine take_ (i := 4) (N := (some 85)) (v := ?_) (a' := ?_) #[true,true,true,true,true,false,true,true,true,true,true,false,false,false] rfl rfl (by kernel_rfl) (fun _ _ _ h => h) (Or.inl ⟨by rfl, ?_⟩) hHeld ?_ ?_
                        rotate_left
                        · intro w' s0
                          go_simp
                          with_reducible rfl
                        rotate_left
                        · simp only [Act.put, List.setIfInBounds_toArray, List.set_cons_zero, List.set_cons_succ, i64_w, i32_w]
                          rfl
                        refine one_ (i := 5) (N := (some 86)) #[true,true,true,true,true,true,true,true,true,true,true,false,false,false] rfl rfl (by kernel_rfl) (by decide) (fun K hK => ?_)
                        refine goes_ Tryd.func8 (by kernel_rfl) rfl #[.int .i64 n2] (by rfl) rfl rfl (by (try simp only [List.map_toArray, List.map_cons, List.map_nil]); first | done | rfl | (go_simp; done)) ?_
                        with_reducible refine (impl_digitsOf.calls n2 u _ (Lib.TabBelow.here (Lib.TabBelow.on HTB.out (by repeat (first | (with_reducible first | exact HB.out | apply below_alloc | apply pw_below_drewN | apply below_drew1) | exact HB.out)))) A2.out).mono ?_
                        rintro e w5 ⟨rfl, hb⟩
                        refine ⟨_, rfl, ?_⟩
                        have n0_ := Aside0.mk (below_step (by repeat (first | (with_reducible first | exact HB.out | apply below_alloc | apply pw_below_drewN | apply below_drew1) | exact HB.out)) hb)
                        have m0_ := Aside0.mk (Cells.below HC.out hb)
                        clear HB HC hb
                        have HB := n0_
                        have HC := m0_
                        clear n0_ m0_
                        refine hK.out _ _ (HC.out.2.2.1) (fun hHeld2 => ?_)
                        clear hK K hHeld
                        have hHeld := hHeld2
                        clear hHeld2
                        refine norm_ (a' := ?_) ?_ ?_
                        rotate_left
                        · show Act.put _ (some 86) _ = _
                          simp only [Act.put, List.setIfInBounds_toArray, List.set_cons_zero, List.set_cons_succ, i64_w, i32_w]
                          rfl
                        refine pure_ (i := 11) (N := (some 92)) (v := ?_) (a' := ?_) #[true,true,true,true,true,true,true,true,true,true,true,true,false,false] rfl rfl (by kernel_rfl) (fun _ _ _ h => h) (Or.inl ⟨by rfl, ?_⟩) ?_ ?_
                        rotate_left
                        · intro w'
                          go_simp
                          with_reducible rfl
                        rotate_left
                        · simp only [Act.put, List.setIfInBounds_toArray, List.set_cons_zero, List.set_cons_succ, i64_w, i32_w]
                          rfl
                        refine pure_ (i := 12) (N := (some 93)) (v := ?_) (a' := ?_) #[true,true,true,true,true,true,true,true,true,true,true,true,true,false] rfl rfl (by kernel_rfl) (fun _ _ _ h => h) (Or.inl ⟨by rfl, ?_⟩) ?_ ?_
                        rotate_left
                        · intro w'
                          go_simp
                          with_reducible rfl
                        rotate_left
                        · simp only [Act.put, List.setIfInBounds_toArray, List.set_cons_zero, List.set_cons_succ, i64_w, i32_w]
                          rfl
                        refine pure_ (i := 13) (N := (some 9)) (v := ?_) (a' := ?_) #[true,true,true,true,true,true,true,true,true,true,true,true,true,true] rfl rfl (by kernel_rfl) (fun _ _ _ h => h) (Or.inl ⟨by rfl, ?_⟩) ?_ ?_
                        rotate_left
                        · intro w'
                          go_simp
                          with_reducible rfl
                        rotate_left
                        · simp only [Act.put, List.setIfInBounds_toArray, List.set_cons_zero, List.set_cons_succ, i64_w, i32_w]
                          rfl
                        refine done_ (by kernel_rfl) ?_
                        try go_wp2
                        go_ret
                        exact ⟨by first | rfl | (simp [bne]; done) | (simp [*]; done), (by repeat (first | (with_reducible first | exact HB.out | apply below_alloc | apply pw_below_drewN | apply below_drew1) | exact HB.out))⟩
                  · skip
                    have y0 : n0 = 0 := HZ.out.1 (by decide)
                    have y1 : n1 = 0 := HZ.out.2.1 (by decide)
                    replace H := H.out
                    rw [if_pos y0] at H
                    rw [if_pos y1] at H
                    have x2 := HC.out.2.2.1
                    by_cases e0 : n2 = 0
                    · have e1 : (n2 == 0) = true := beq_iff_eq.mpr e0
                      go_wp2
                      go_roundg 1
                      case measure => have := HX.out; omega
                      case rel => exact ⟨3, (by first | rfl | (simp; done)), ⟨by decide⟩, ⟨by omega⟩, ⟨HC.out⟩, ⟨(by repeat (first | (with_reducible first | exact HB.out | apply below_alloc | apply pw_below_drewN | apply below_drew1) | exact HB.out))⟩⟩
                    · have e1 : (n2 == 0) = false := beq_eq_false_iff_ne.mpr e0
                      rw [if_neg e0] at H
                      unfold impl_UnitText.at at H
                      obtain ⟨t, A1, H⟩ := Option.bind_eq_some_iff.mp H
                      replace A1 := Aside0.mk A1
                      split at H
                      case isFalse => cases H
                      rename_i z0
                      have z1 : (9223372036854775807 < s.size + t.size) = False := eq_false (by omega)
                      have z2 : (9223372036854775807 < s.size + t.size + 1) = False := eq_false (by omega)
                      clear e0
                      go_wp2
                      have n0_ := Aside0.mk (below_drew1 HB.out)
                      have m0_ := Aside0.mk (Cells.drew HC.out)
                      clear HB HC
                      have HB := n0_
                      have HC := m0_
                      clear n0_ m0_
                      have x2 := HC.out.2.2.1
                      refine start_ (n := 12) (S := fun w' => w'.cell? ⟨wc.heap.size, 2, none⟩ = some (.int .i64 n2)) (ds := []) #[false,false,false,false,false,false,false,false,false,false,false,false] (by kernel_rfl) rfl rfl (HC.out.2.2.1) (fun hHeld => ?_)
                      generalize wr.drew = w2 at hHeld HB HC x2 ⊢
                      refine pure_ (i := 0) (N := (some 65)) (v := ?_) (a' := ?_) #[true,false,false,false,false,false,false,false,false,false,false,false] rfl rfl (by kernel_rfl) (fun _ _ _ h => h) (Or.inl ⟨by rfl, ?_⟩) ?_ ?_
                      rotate_left
                      · intro w'
                        go_simp
                        with_reducible rfl
                      rotate_left
                      · simp only [Act.put, List.setIfInBounds_toArray, List.set_cons_zero, List.set_cons_succ, i64_w, i32_w]
                        rfl
                      refine pure_ (i := 1) (N := (some 66)) (v := ?_) (a' := ?_) #[true,true,false,false,false,false,false,false,false,false,false,false] rfl rfl (by kernel_rfl) (fun _ _ _ h => h) (Or.inl ⟨by rfl, ?_⟩) ?_ ?_
                      rotate_left
                      · intro w'
                        go_simp
                        with_reducible rfl
                      rotate_left
                      · simp only [Act.put, List.setIfInBounds_toArray, List.set_cons_zero, List.set_cons_succ, i64_w, i32_w]
                        rfl
                      refine pure_ (i := 2) (N := (some 67)) (v := ?_) (a' := ?_) #[true,true,true,false,false,false,false,false,false,false,false,false] rfl rfl (by kernel_rfl) (fun _ _ _ h => h) (Or.inl ⟨by rfl, ?_⟩) ?_ ?_
                      rotate_left
                      · intro w'
                        go_simp
                        with_reducible rfl
                      rotate_left
                      · simp only [Act.put, List.setIfInBounds_toArray, List.set_cons_zero, List.set_cons_succ, i64_w, i32_w]
                        rfl
                      refine pure_ (i := 6) (N := (some 71)) (v := ?_) (a' := ?_) #[true,true,true,false,false,false,true,false,false,false,false,false] rfl rfl (by kernel_rfl) (fun _ _ _ h => h) (Or.inl ⟨by rfl, ?_⟩) ?_ ?_
                      rotate_left
                      · intro w'
                        go_simp
                        with_reducible rfl
                      rotate_left
                      · simp only [Act.put, List.setIfInBounds_toArray, List.set_cons_zero, List.set_cons_succ, i64_w, i32_w]
                        rfl
                      refine pure_ (i := 7) (N := (some 72)) (v := ?_) (a' := ?_) #[true,true,true,false,false,false,true,true,false,false,false,false] rfl rfl (by kernel_rfl) (fun _ _ _ h => h) (Or.inl ⟨by rfl, ?_⟩) ?_ ?_
                      rotate_left
                      · intro w'
                        go_simp
                        with_reducible rfl
                      rotate_left
                      · simp only [Act.put, List.setIfInBounds_toArray, List.set_cons_zero, List.set_cons_succ, i64_w, i32_w]
                        rfl
                      refine pure_ (i := 8) (N := (some 73)) (v := ?_) (a' := ?_) #[true,true,true,false,false,false,true,true,true,false,false,false] rfl rfl (by kernel_rfl) (fun _ _ _ h => h) (Or.inl ⟨by rfl, ?_⟩) ?_ ?_
                      rotate_left
                      · intro w'
                        go_simp
                        with_reducible rfl
                      rotate_left
                      · simp only [Act.put, List.setIfInBounds_toArray, List.set_cons_zero, List.set_cons_succ, i64_w, i32_w]
                        rfl
                      refine pure_ (i := 9) (N := (some 74)) (v := .string (⟨#[109]⟩ : ByteArray)) (a' := ?_) #[true,true,true,false,false,false,true,true,true,true,false,false] rfl rfl (by kernel_rfl) (fun _ _ _ h => h) (Or.inl ⟨by rfl, ?_⟩) ?_ ?_
                      · intro w'
                        go_simp
                        first | done | rfl | (rw [if_pos (by decide), if_pos (by decide)]; rfl) | (congr 3; done) | (congr 3; kernel_rfl)
                      rotate_left
                      · simp only [Act.put, List.setIfInBounds_toArray, List.set_cons_zero, List.set_cons_succ, i64_w, i32_w]
                        rfl
                      refine take_ (i := 3) (N := (some 68)) (v := ?_) (a' := ?_) #[true,true,true,true,false,false,true,true,true,true,false,false] rfl rfl (by kernel_rfl) (fun _ _ _ h => h) (Or.inl ⟨by rfl, ?_⟩) hHeld ?_ ?_
                      rotate_left
                      · intro w' s0
                        go_simp
                        with_reducible rfl
                      rotate_left
                      · simp only [Act.put, List.setIfInBounds_toArray, List.set_cons_zero, List.set_cons_succ, i64_w, i32_w]
                        rfl
                      refine one_ (i := 4) (N := (some 69)) #[true,true,true,true,true,false,true,true,true,true,false,false] rfl rfl (by kernel_rfl) (by decide) (fun K hK => ?_)
                      refine goes_ Tryd.func8 (by kernel_rfl) rfl #[.int .i64 n2] (by rfl) rfl rfl (by (try simp only [List.map_toArray, List.map_cons, List.map_nil]); first | done | rfl | (go_simp; done)) ?_
                      with_reducible refine (impl_digitsOf.calls n2 t _ (Lib.TabBelow.here (Lib.TabBelow.on HTB.out (by repeat (first | (with_reducible first | exact HB.out | apply below_alloc | apply pw_below_drewN | apply below_drew1) | exact HB.out)))) A1.out).mono ?_
                      rintro e w4 ⟨rfl, hb⟩
                      refine ⟨_, rfl, ?_⟩
                      have n0_ := Aside0.mk (below_step (by repeat (first | (with_reducible first | exact HB.out | apply below_alloc | apply pw_below_drewN | apply below_drew1) | exact HB.out)) hb)
                      have m0_ := Aside0.mk (Cells.below HC.out hb)
                      clear HB HC hb
                      have HB := n0_
                      have HC := m0_
                      clear n0_ m0_
                      refine hK.out _ _ (HC.out.2.2.1) (fun hHeld2 => ?_)
                      clear hK K hHeld
                      have hHeld := hHeld2
                      clear hHeld2
                      refine norm_ (a' := ?_) ?_ ?_
                      rotate_left
                      · show Act.put _ (some 69) _ = _
                        simp only [Act.put, List.setIfInBounds_toArray, List.set_cons_zero, List.set_cons_succ, i64_w, i32_w]
                        rfl
                      refine pure_ (i := 5) (N := (some 70)) (v := ?_) (a' := ?_) #[true,true,true,true,true,true,true,true,true,true,false,false] rfl rfl (by kernel_rfl) (fun _ _ _ h => h) (Or.inl ⟨by rfl, ?_⟩) ?_ ?_
                      rotate_left
                      · intro w'
                        go_simp
                        with_reducible rfl
                      rotate_left
                      · simp only [Act.put, List.setIfInBounds_toArray, List.set_cons_zero, List.set_cons_succ, i64_w, i32_w]
                        rfl
                      refine pure_ (i := 10) (N := (some 75)) (v := ?_) (a' := ?_) #[true,true,true,true,true,true,true,true,true,true,true,false] rfl rfl (by kernel_rfl) (fun _ _ _ h => h) (Or.inl ⟨by rfl, ?_⟩) ?_ ?_
                      rotate_left
                      · intro w'
                        go_simp
                        with_reducible rfl
                      rotate_left
                      · simp only [Act.put, List.setIfInBounds_toArray, List.set_cons_zero, List.set_cons_succ, i64_w, i32_w]
                        rfl
                      refine pure_ (i := 11) (N := (some 9)) (v := ?_) (a' := ?_) #[true,true,true,true,true,true,true,true,true,true,true,true] rfl rfl (by kernel_rfl) (fun _ _ _ h => h) (Or.inl ⟨by rfl, ?_⟩) ?_ ?_
                      rotate_left
                      · intro w'
                        go_simp
                        with_reducible rfl
                      rotate_left
                      · simp only [Act.put, List.setIfInBounds_toArray, List.set_cons_zero, List.set_cons_succ, i64_w, i32_w]
                        rfl
                      refine done_ (by kernel_rfl) ?_
                      clear x2 hHeld
                      by_cases e2 : n3 = 0
                      · rw [if_pos e2] at H
                        have e3 : (n3 == 0) = true := beq_iff_eq.mpr e2
                        have e4 : (n3 != 0) = false := bne_eq_false_iff_eq.mpr e2
                        obtain rfl := Option.some.inj H
                        have x3 := HC.out.2.2.2.1
                        clear e2
                        go_wp2
                        go_ret
                        exact ⟨by first | rfl | (simp [bne]; done) | (simp [*]; done), (by repeat (first | (with_reducible first | exact HB.out | apply below_alloc | apply pw_below_drewN | apply below_drew1) | exact HB.out))⟩
                      · rw [if_neg e2] at H
                        have e3 : (n3 == 0) = false := beq_eq_false_iff_ne.mpr e2
                        have e4 : (n3 != 0) = true := bne_iff_ne.mpr e2
                        clear e2
                        obtain ⟨u, A2, H⟩ := Option.bind_eq_some_iff.mp H
                        replace A2 := Aside0.mk A2
                        split at H
                        case isFalse => cases H
                        rename_i z3
                        obtain rfl := Option.some.inj H
                        have z4 : (9223372036854775807 < u.size + 1) = False := eq_false (by omega)
                        have z5 : (9223372036854775807 < s.size + t.size + 1 + (u.size + 1)) = False := eq_false (by omega)
                        have x3 := HC.out.2.2.2.1
                        go_wp2
                        have n0_ := Aside0.mk (below_drew1 HB.out)
                        have m0_ := Aside0.mk (Cells.drew HC.out)
                        clear HB HC
                        have HB := n0_
                        have HC := m0_
                        clear n0_ m0_
                        replace x3 := HC.out.2.2.2.1
                        refine start_ (n := 14) (S := fun w' => w'.cell? ⟨wc.heap.size, 3, none⟩ = some (.int .i64 n3)) (ds := []) #[false,false,false,false,false,false,false,false,false,false,false,false,false,false] (by kernel_rfl) rfl rfl (HC.out.2.2.2.1) (fun hHeld => ?_)
                        generalize w4.drew = w6 at hHeld HB HC x3 ⊢
                        refine pure_ (i := 0) (N := (some 81)) (v := ?_) (a' := ?_) #[true,false,false,false,false,false,false,false,false,false,false,false,false,false] rfl rfl (by kernel_rfl) (fun _ _ _ h => h) (Or.inl ⟨by rfl, ?_⟩) ?_ ?_
                        rotate_left
                        · intro w'
                          go_simp
                          with_reducible rfl
                        rotate_left
                        · simp only [Act.put, List.setIfInBounds_toArray, List.set_cons_zero, List.set_cons_succ, i64_w, i32_w]
                          rfl
                        refine pure_ (i := 1) (N := (some 82)) (v := ?_) (a' := ?_) #[true,true,false,false,false,false,false,false,false,false,false,false,false,false] rfl rfl (by kernel_rfl) (fun _ _ _ h => h) (Or.inl ⟨by rfl, ?_⟩) ?_ ?_
                        rotate_left
                        · intro w'
                          go_simp
                          with_reducible rfl
                        rotate_left
                        · simp only [Act.put, List.setIfInBounds_toArray, List.set_cons_zero, List.set_cons_succ, i64_w, i32_w]
                          rfl
                        refine pure_ (i := 2) (N := (some 83)) (v := ?_) (a' := ?_) #[true,true,true,false,false,false,false,false,false,false,false,false,false,false] rfl rfl (by kernel_rfl) (fun _ _ _ h => h) (Or.inl ⟨by rfl, ?_⟩) ?_ ?_
                        rotate_left
                        · intro w'
                          go_simp
                          with_reducible rfl
                        rotate_left
                        · simp only [Act.put, List.setIfInBounds_toArray, List.set_cons_zero, List.set_cons_succ, i64_w, i32_w]
                          rfl
                        refine pure_ (i := 3) (N := (some 84)) (v := ?_) (a' := ?_) #[true,true,true,true,false,false,false,false,false,false,false,false,false,false] rfl rfl (by kernel_rfl) (fun _ _ _ h => h) (Or.inl ⟨by rfl, ?_⟩) ?_ ?_
                        rotate_left
                        · intro w'
                          go_simp
                          with_reducible rfl
                        rotate_left
                        · simp only [Act.put, List.setIfInBounds_toArray, List.set_cons_zero, List.set_cons_succ, i64_w, i32_w]
                          rfl
                        refine pure_ (i := 6) (N := (some 87)) (v := ?_) (a' := ?_) #[true,true,true,true,false,false,true,false,false,false,false,false,false,false] rfl rfl (by kernel_rfl) (fun _ _ _ h => h) (Or.inl ⟨by rfl, ?_⟩) ?_ ?_
                        rotate_left
                        · intro w'
                          go_simp
                          with_reducible rfl
                        rotate_left
                        · simp only [Act.put, List.setIfInBounds_toArray, List.set_cons_zero, List.set_cons_succ, i64_w, i32_w]
                          rfl
                        refine pure_ (i := 7) (N := (some 88)) (v := ?_) (a' := ?_) #[true,true,true,true,false,false,true,true,false,false,false,false,false,false] rfl rfl (by kernel_rfl) (fun _ _ _ h => h) (Or.inl ⟨by rfl, ?_⟩) ?_ ?_
                        rotate_left
                        · intro w'
                          go_simp
                          with_reducible rfl
                        rotate_left
                        · simp only [Act.put, List.setIfInBounds_toArray, List.set_cons_zero, List.set_cons_succ, i64_w, i32_w]
                          rfl
                        refine pure_ (i := 8) (N := (some 89)) (v := ?_) (a' := ?_) #[true,true,true,true,false,false,true,true,true,false,false,false,false,false] rfl rfl (by kernel_rfl) (fun _ _ _ h => h) (Or.inl ⟨by rfl, ?_⟩) ?_ ?_
                        rotate_left
                        · intro w'
                          go_simp
                          with_reducible rfl
                        rotate_left
                        · simp only [Act.put, List.setIfInBounds_toArray, List.set_cons_zero, List.set_cons_succ, i64_w, i32_w]
                          rfl
                        refine pure_ (i := 9) (N := (some 90)) (v := ?_) (a' := ?_) #[true,true,true,true,false,false,true,true,true,true,false,false,false,false] rfl rfl (by kernel_rfl) (fun _ _ _ h => h) (Or.inl ⟨by rfl, ?_⟩) ?_ ?_
                        rotate_left
                        · intro w'
                          go_simp
                          with_reducible rfl
                        rotate_left
                        · simp only [Act.put, List.setIfInBounds_toArray, List.set_cons_zero, List.set_cons_succ, i64_w, i32_w]
                          rfl
                        refine pure_ (i := 10) (N := (some 91)) (v := .string (⟨#[115]⟩ : ByteArray)) (a' := ?_) #[true,true,true,true,false,false,true,true,true,true,true,false,false,false] rfl rfl (by kernel_rfl) (fun _ _ _ h => h) (Or.inl ⟨by rfl, ?_⟩) ?_ ?_
                        · intro w'
                          go_simp
                          first | done | rfl | (rw [if_pos (by decide), if_pos (by decide)]; rfl) | (congr 3; done) | (congr 3; kernel_rfl)
                        rotate_left
                        · simp only [Act.put, List.setIfInBounds_toArray, List.set_cons_zero, List.set_cons_succ, i64_w, i32_w]
                          rfl
                        refine take_ (i := 4) (N := (some 85)) (v := ?_) (a' := ?_) #[true,true,true,true,true,false,true,true,true,true,true,false,false,false] rfl rfl (by kernel_rfl) (fun _ _ _ h => h) (Or.inl ⟨by rfl, ?_⟩) hHeld ?_ ?_
                        rotate_left
                        · intro w' s0
                          go_simp
                          with_reducible rfl
                        rotate_left
                        · simp only [Act.put, List.setIfInBounds_toArray, List.set_cons_zero, List.set_cons_succ, i64_w, i32_w]
                          rfl
                        refine one_ (i := 5) (N := (some 86)) #[true,true,true,true,true,true,true,true,true,true,true,false,false,false] rfl rfl (by kernel_rfl) (by decide) (fun K hK => ?_)
                        refine goes_ Tryd.func8 (by kernel_rfl) rfl #[.int .i64 n3] (by rfl) rfl rfl (by (try simp only [List.map_toArray, List.map_cons, List.map_nil]); first | done | rfl | (go_simp; done)) ?_
                        with_reducible refine (impl_digitsOf.calls n3 u _ (Lib.TabBelow.here (Lib.TabBelow.on HTB.out (by repeat (first | (with_reducible first | exact HB.out | apply below_alloc | apply pw_below_drewN | apply below_drew1) | exact HB.out)))) A2.out).mono ?_
                        rintro e w5 ⟨rfl, hb⟩
                        refine ⟨_, rfl, ?_⟩
                        have n0_ := Aside0.mk (below_step (by repeat (first | (with_reducible first | exact HB.out | apply below_alloc | apply pw_below_drewN | apply below_drew1) | exact HB.out)) hb)
                        have m0_ := Aside0.mk (Cells.below HC.out hb)
                        clear HB HC hb
                        have HB := n0_
                        have HC := m0_
                        clear n0_ m0_
                        refine hK.out _ _ (HC.out.2.2.2.1) (fun hHeld2 => ?_)
                        clear hK K hHeld
                        have hHeld := hHeld2
                        clear hHeld2
                        refine norm_ (a' := ?_) ?_ ?_
                        rotate_left
                        · show Act.put _ (some 86) _ = _
                          simp only [Act.put, List.setIfInBounds_toArray, List.set_cons_zero, List.set_cons_succ, i64_w, i32_w]
                          rfl
                        refine pure_ (i := 11) (N := (some 92)) (v := ?_) (a' := ?_) #[true,true,true,true,true,true,true,true,true,true,true,true,false,false] rfl rfl (by kernel_rfl) (fun _ _ _ h => h) (Or.inl ⟨by rfl, ?_⟩) ?_ ?_
                        rotate_left
                        · intro w'
                          go_simp
                          with_reducible rfl
                        rotate_left
                        · simp only [Act.put, List.setIfInBounds_toArray, List.set_cons_zero, List.set_cons_succ, i64_w, i32_w]
                          rfl
                        refine pure_ (i := 12) (N := (some 93)) (v := ?_) (a' := ?_) #[true,true,true,true,true,true,true,true,true,true,true,true,true,false] rfl rfl (by kernel_rfl) (fun _ _ _ h => h) (Or.inl ⟨by rfl, ?_⟩) ?_ ?_
                        rotate_left
                        · intro w'
                          go_simp
                          with_reducible rfl
                        rotate_left
                        · simp only [Act.put, List.setIfInBounds_toArray, List.set_cons_zero, List.set_cons_succ, i64_w, i32_w]
                          rfl
                        refine pure_ (i := 13) (N := (some 9)) (v := ?_) (a' := ?_) #[true,true,true,true,true,true,true,true,true,true,true,true,true,true] rfl rfl (by kernel_rfl) (fun _ _ _ h => h) (Or.inl ⟨by rfl, ?_⟩) ?_ ?_
                        rotate_left
                        · intro w'
                          go_simp
                          with_reducible rfl
                        rotate_left
                        · simp only [Act.put, List.setIfInBounds_toArray, List.set_cons_zero, List.set_cons_succ, i64_w, i32_w]
                          rfl
                        refine done_ (by kernel_rfl) ?_
                        try go_wp2
                        go_ret
                        exact ⟨by first | rfl | (simp [bne]; done) | (simp [*]; done), (by repeat (first | (with_reducible first | exact HB.out | apply below_alloc | apply pw_below_drewN | apply below_drew1) | exact HB.out))⟩
                  · skip
                    have y0 : n0 = 0 := HZ.out.1 (by decide)
                    have y1 : n1 = 0 := HZ.out.2.1 (by decide)
                    have y2 : n2 = 0 := HZ.out.2.2.1 (by decide)
                    replace H := H.out
                    rw [if_pos y0] at H
                    rw [if_pos y1] at H
                    rw [if_pos y2] at H
                    have x3 := HC.out.2.2.2.1
                    by_cases e0 : n3 = 0
                    · have e1 : (n3 == 0) = true := beq_iff_eq.mpr e0
                      go_wp2
                      go_roundg 0
                      case measure => have := HX.out; omega
                      case rel => exact ⟨4, (by first | rfl | (simp; done)), ⟨by decide⟩, ⟨by omega⟩, ⟨HC.out⟩, ⟨(by repeat (first | (with_reducible first | exact HB.out | apply below_alloc | apply pw_below_drewN | apply below_drew1) | exact HB.out))⟩⟩
                    · have e1 : (n3 == 0) = false := beq_eq_false_iff_ne.mpr e0
                      rw [if_neg e0] at H
                      unfold impl_UnitText.at at H
                      obtain ⟨t, A1, H⟩ := Option.bind_eq_some_iff.mp H
                      replace A1 := Aside0.mk A1
                      split at H
                      case isFalse => cases H
                      rename_i z0
                      have z1 : (9223372036854775807 < s.size + t.size) = False := eq_false (by omega)
                      have z2 : (9223372036854775807 < s.size + t.size + 1) = False := eq_false (by omega)
                      clear e0
                      go_wp2
                      have n0_ := Aside0.mk (below_drew1 HB.out)
                      have m0_ := Aside0.mk (Cells.drew HC.out)
                      clear HB HC
                      have HB := n0_
                      have HC := m0_
                      clear n0_ m0_
                      have x3 := HC.out.2.2.2.1
                      refine start_ (n := 12) (S := fun w' => w'.cell? ⟨wc.heap.size, 3, none⟩ = some (.int .i64 n3)) (ds := []) #[false,false,false,false,false,false,false,false,false,false,false,false] (by kernel_rfl) rfl rfl (HC.out.2.2.2.1) (fun hHeld => ?_)
                      generalize wr.drew = w2 at hHeld HB HC x3 ⊢
                      refine pure_ (i := 0) (N := (some 65)) (v := ?_) (a' := ?_) #[true,false,false,false,false,false,false,false,false,false,false,false] rfl rfl (by kernel_rfl) (fun _ _ _ h => h) (Or.inl ⟨by rfl, ?_⟩) ?_ ?_
                      rotate_left
                      · intro w'
                        go_simp
                        with_reducible rfl
                      rotate_left
                      · simp only [Act.put, List.setIfInBounds_toArray, List.set_cons_zero, List.set_cons_succ, i64_w, i32_w]
                        rfl
                      refine pure_ (i := 1) (N := (some 66)) (v := ?_) (a' := ?_) #[true,true,false,false,false,false,false,false,false,false,false,false] rfl rfl (by kernel_rfl) (fun _ _ _ h => h) (Or.inl ⟨by rfl, ?_⟩) ?_ ?_
                      rotate_left
                      · intro w'
                        go_simp
                        with_reducible rfl
                      rotate_left
                      · simp only [Act.put, List.setIfInBounds_toArray, List.set_cons_zero, List.set_cons_succ, i64_w, i32_w]
                        rfl
                      refine pure_ (i := 2) (N := (some 67)) (v := ?_) (a' := ?_) #[true,true,true,false,false,false,false,false,false,false,false,false] rfl rfl (by kernel_rfl) (fun _ _ _ h => h) (Or.inl ⟨by rfl, ?_⟩) ?_ ?_
                      rotate_left
                      · intro w'
                        go_simp
                        with_reducible rfl
                      rotate_left
                      · simp only [Act.put, List.setIfInBounds_toArray, List.set_cons_zero, List.set_cons_succ, i64_w, i32_w]
                        rfl
                      refine pure_ (i := 6) (N := (some 71)) (v := ?_) (a' := ?_) #[true,true,true,false,false,false,true,false,false,false,false,false] rfl rfl (by kernel_rfl) (fun _ _ _ h => h) (Or.inl ⟨by rfl, ?_⟩) ?_ ?_
                      rotate_left
                      · intro w'
                        go_simp
                        with_reducible rfl
                      rotate_left
                      · simp only [Act.put, List.setIfInBounds_toArray, List.set_cons_zero, List.set_cons_succ, i64_w, i32_w]
                        rfl
                      refine pure_ (i := 7) (N := (some 72)) (v := ?_) (a' := ?_) #[true,true,true,false,false,false,true,true,false,false,false,false] rfl rfl (by kernel_rfl) (fun _ _ _ h => h) (Or.inl ⟨by rfl, ?_⟩) ?_ ?_
                      rotate_left
                      · intro w'
                        go_simp
                        with_reducible rfl
                      rotate_left
                      · simp only [Act.put, List.setIfInBounds_toArray, List.set_cons_zero, List.set_cons_succ, i64_w, i32_w]
                        rfl
                      refine pure_ (i := 8) (N := (some 73)) (v := ?_) (a' := ?_) #[true,true,true,false,false,false,true,true,true,false,false,false] rfl rfl (by kernel_rfl) (fun _ _ _ h => h) (Or.inl ⟨by rfl, ?_⟩) ?_ ?_
                      rotate_left
                      · intro w'
                        go_simp
                        with_reducible rfl
                      rotate_left
                      · simp only [Act.put, List.setIfInBounds_toArray, List.set_cons_zero, List.set_cons_succ, i64_w, i32_w]
                        rfl
                      refine pure_ (i := 9) (N := (some 74)) (v := .string (⟨#[115]⟩ : ByteArray)) (a' := ?_) #[true,true,true,false,false,false,true,true,true,true,false,false] rfl rfl (by kernel_rfl) (fun _ _ _ h => h) (Or.inl ⟨by rfl, ?_⟩) ?_ ?_
                      · intro w'
                        go_simp
                        first | done | rfl | (rw [if_pos (by decide), if_pos (by decide)]; rfl) | (congr 3; done) | (congr 3; kernel_rfl)
                      rotate_left
                      · simp only [Act.put, List.setIfInBounds_toArray, List.set_cons_zero, List.set_cons_succ, i64_w, i32_w]
                        rfl
                      refine take_ (i := 3) (N := (some 68)) (v := ?_) (a' := ?_) #[true,true,true,true,false,false,true,true,true,true,false,false] rfl rfl (by kernel_rfl) (fun _ _ _ h => h) (Or.inl ⟨by rfl, ?_⟩) hHeld ?_ ?_
                      rotate_left
                      · intro w' s0
                        go_simp
                        with_reducible rfl
                      rotate_left
                      · simp only [Act.put, List.setIfInBounds_toArray, List.set_cons_zero, List.set_cons_succ, i64_w, i32_w]
                        rfl
                      refine one_ (i := 4) (N := (some 69)) #[true,true,true,true,true,false,true,true,true,true,false,false] rfl rfl (by kernel_rfl) (by decide) (fun K hK => ?_)
                      refine goes_ Tryd.func8 (by kernel_rfl) rfl #[.int .i64 n3] (by rfl) rfl rfl (by (try simp only [List.map_toArray, List.map_cons, List.map_nil]); first | done | rfl | (go_simp; done)) ?_
                      with_reducible refine (impl_digitsOf.calls n3 t _ (Lib.TabBelow.here (Lib.TabBelow.on HTB.out (by repeat (first | (with_reducible first | exact HB.out | apply below_alloc | apply pw_below_drewN | apply below_drew1) | exact HB.out)))) A1.out).mono ?_
                      rintro e w4 ⟨rfl, hb⟩
                      refine ⟨_, rfl, ?_⟩
                      have n0_ := Aside0.mk (below_step (by repeat (first | (with_reducible first | exact HB.out | apply below_alloc | apply pw_below_drewN | apply below_drew1) | exact HB.out)) hb)
                      have m0_ := Aside0.mk (Cells.below HC.out hb)
                      clear HB HC hb
                      have HB := n0_
                      have HC := m0_
                      clear n0_ m0_
                      refine hK.out _ _ (HC.out.2.2.2.1) (fun hHeld2 => ?_)
                      clear hK K hHeld
                      have hHeld := hHeld2
                      clear hHeld2
                      refine norm_ (a' := ?_) ?_ ?_
                      rotate_left
                      · show Act.put _ (some 69) _ = _
                        simp only [Act.put, List.setIfInBounds_toArray, List.set_cons_zero, List.set_cons_succ, i64_w, i32_w]
                        rfl
                      refine pure_ (i := 5) (N := (some 70)) (v := ?_) (a' := ?_) #[true,true,true,true,true,true,true,true,true,true,false,false] rfl rfl (by kernel_rfl) (fun _ _ _ h => h) (Or.inl ⟨by rfl, ?_⟩) ?_ ?_
                      rotate_left
                      · intro w'
                        go_simp
                        with_reducible rfl
                      rotate_left
                      · simp only [Act.put, List.setIfInBounds_toArray, List.set_cons_zero, List.set_cons_succ, i64_w, i32_w]
                        rfl
                      refine pure_ (i := 10) (N := (some 75)) (v := ?_) (a' := ?_) #[true,true,true,true,true,true,true,true,true,true,true,false] rfl rfl (by kernel_rfl) (fun _ _ _ h => h) (Or.inl ⟨by rfl, ?_⟩) ?_ ?_
                      rotate_left
                      · intro w'
                        go_simp
                        with_reducible rfl
                      rotate_left
                      · simp only [Act.put, List.setIfInBounds_toArray, List.set_cons_zero, List.set_cons_succ, i64_w, i32_w]
                        rfl
                      refine pure_ (i := 11) (N := (some 9)) (v := ?_) (a' := ?_) #[true,true,true,true,true,true,true,true,true,true,true,true] rfl rfl (by kernel_rfl) (fun _ _ _ h => h) (Or.inl ⟨by rfl, ?_⟩) ?_ ?_
                      rotate_left
                      · intro w'
                        go_simp
                        with_reducible rfl
                      rotate_left
                      · simp only [Act.put, List.setIfInBounds_toArray, List.set_cons_zero, List.set_cons_succ, i64_w, i32_w]
                        rfl
                      refine done_ (by kernel_rfl) ?_
                      clear x3 hHeld
                      replace H : some ((s ++ t) ++ (⟨#[115]⟩ : ByteArray)) = some r := by simpa using H
                      obtain rfl := Option.some.inj H
                      have x4 := HC.out.2.2.2.2
                      go_wp2
                      go_ret
                      exact ⟨by first | rfl | (simp [bne]; done) | (simp [*]; done), (by repeat (first | (with_reducible first | exact HB.out | apply below_alloc | apply pw_below_drewN | apply below_drew1) | exact HB.out))⟩
                  · replace H := H.out
                    rw [if_pos (HZ.out.1 (by decide))] at H
                    rw [if_pos (HZ.out.2.1 (by decide))] at H
                    rw [if_pos (HZ.out.2.2.1 (by decide))] at H
                    rw [if_pos (HZ.out.2.2.2 (by decide))] at H
                    obtain rfl := Option.some.inj H
                    go_wp2
                    go_ret
                    exact ⟨by first | rfl | (simp [bne]; done) | (simp [*]; done), (by repeat (first | (with_reducible first | exact HB.out | apply below_alloc | apply pw_below_drewN | apply below_drew1) | exact HB.out))⟩
              · rw [if_neg d3] at H
                have d3b0 : (a1 == 3) = false := beq_eq_false_iff_ne.mpr d3
                clear d3
                obtain rfl := Option.some.inj H
                go_wp2
                go_ret
                exact ⟨by first | rfl | (simp [bne]; done) | (simp [*]; done), (by repeat (first | (with_reducible first | exact HB.out | apply below_alloc | apply pw_below_drewN | apply below_drew1) | exact HB.out))⟩
end Go.Proofs.YtdmhdnagaoiclaaDoor.PFnExactUnitText
