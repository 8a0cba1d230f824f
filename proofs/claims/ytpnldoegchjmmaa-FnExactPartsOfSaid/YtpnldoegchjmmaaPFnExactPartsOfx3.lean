-- Written by a program of this repo (myprint: the kit's print with functions given by hand).
import Derived.Test.YtpnldoegchjmmaaPFnExactPartsOfx0
import Derived.Test.YtpnldoegchjmmaaPFnExactPartsOfx2
namespace Go.Proofs.Ytpnldoegchjmmaa.PFnExactPartsOf
attribute [local go_sem] Go.Proofs.Ytpnldoegchjmmaa.Cmp.str_gtr Go.Proofs.Ytpnldoegchjmmaa.Cmp.str_geq Go.Proofs.Ytpnldoegchjmmaa.Cmp.str_leq
open Go.RowKit Go.Proofs.YtpnldoegchjmmaaW.PrintWords Go.Proofs.YtpnldoegchjmmaaW.PrintLast Go.Proofs.YtpnldoegchjmmaaW.PrintMore
attribute [local go_sem] max2_int min2_int max_two min_two max_three min_three max_four min_four   -- for this text's walks alone
set_option linter.unusedVariables false
set_option linter.unusedSimpArgs false

/-! ### spec_l22Form: function 9 -/
mutual
def spec_l22Form.j0 : Nat → ByteArray → List ByteArray → List Bool → ByteArray → Bool → Option (List ByteArray × List Bool × Bool)
  | 0, _, _, _, _, _ => none
  | k + 1, x0, x5, x6, x7, x21 => if x21 = true then (some (([] : List ByteArray), ([] : List Bool), false)) else (spec_l22Form.l0 k x0 x5 x6 x7 0 0)
def spec_l22Form.l0 : Nat → ByteArray → List ByteArray → List Bool → ByteArray → Int → Int → Option (List ByteArray × List Bool × Bool)
  | 0, _, _, _, _, _, _ => none
  | k + 1, x0, x5, x6, x7, x8, x9 => if x9 < (x0.size : Int) then (if 0 ≤ x9 then (if (bt x0 x9) = 60 then ((spec_l2NameAt.f k x0 (wrap64 (x9 + 1))).bind fun t124 => (spec_l22Form.j2 k x0 x5 x6 x7 x8 x9 t124)) else (spec_l22Form.j2 k x0 x5 x6 x7 x8 x9 x9)) else (none)) else (if x7.toList = ([] : List UInt8) then (some (x5, x6, decide (x8 > 0))) else (if x5.length < 8796093022208 then (if x6.length < 140737488355328 then (some ((x5 ++ [x7]), (x6 ++ [false]), decide (x8 > 0))) else (none)) else (none)))
def spec_l22Form.j2 : Nat → ByteArray → List ByteArray → List Bool → ByteArray → Int → Int → Int → Option (List ByteArray × List Bool × Bool)
  | 0, _, _, _, _, _, _, _ => none
  | k + 1, x0, x5, x6, x7, x8, x9, x10 => if 0 ≤ x9 then (if x9 < (x0.size : Int) then (if (bt x0 x9) = 60 then (if x10 ≥ (x0.size : Int) then (spec_l22Form.j3 k x0 x5 x6 x7 x8 x9 x10 true) else (if 0 ≤ x10 then (if x10 < (x0.size : Int) then (if (bt x0 x10) = 62 then (if 0 ≤ (wrap64 (x9 + 1)) then (if (wrap64 (x9 + 1)) ≤ x10 then (if x10 ≤ (x0.size : Int) then ((spec_l2Name.f k (x0.extract ((wrap64 (x9 + 1)) : Int).toNat (x10 : Int).toNat)).bind fun t125 => (spec_l22Form.j3 k x0 x5 x6 x7 x8 x9 x10 (!t125))) else (none)) else (none)) else (none)) else (spec_l22Form.j3 k x0 x5 x6 x7 x8 x9 x10 true)) else (none)) else (none))) else (spec_l22Form.j3 k x0 x5 x6 x7 x8 x9 x10 true)) else (none)) else (none)
def spec_l22Form.j3 : Nat → ByteArray → List ByteArray → List Bool → ByteArray → Int → Int → Int → Bool → Option (List ByteArray × List Bool × Bool)
  | 0, _, _, _, _, _, _, _, _ => none
  | k + 1, x0, x5, x6, x7, x8, x9, x10, x61 => if x61 = true then (if 0 ≤ x9 then (if x9 ≤ (wrap64 (x9 + 1)) then (if (wrap64 (x9 + 1)) ≤ (x0.size : Int) then (if x7.size + (x0.extract (x9 : Int).toNat ((wrap64 (x9 + 1)) : Int).toNat).size ≤ 9223372036854775807 then (spec_l22Form.l0 k x0 x5 x6 (x7 ++ (x0.extract (x9 : Int).toNat ((wrap64 (x9 + 1)) : Int).toNat)) x8 (wrap64 (x9 + 1))) else (none)) else (none)) else (none)) else (none)) else (if x7.toList = ([] : List UInt8) then (if (x5.length : Int) > 0 then (if 0 ≤ (wrap64 ((x5.length : Int) - 1)) then (if (wrap64 ((x5.length : Int) - 1)) < (x6.length : Int) then (if rdOf false x6 (wrap64 ((x5.length : Int) - 1)) = true then (some (([] : List ByteArray), ([] : List Bool), false)) else (spec_l22Form.j4 k x0 x5 x6 x8 x9 x10)) else (none)) else (none)) else (spec_l22Form.j4 k x0 x5 x6 x8 x9 x10)) else (if x5.length < 8796093022208 then (if x6.length < 140737488355328 then (spec_l22Form.j4 k x0 (x5 ++ [x7]) (x6 ++ [false]) x8 x9 x10) else (none)) else (none)))
def spec_l22Form.j4 : Nat → ByteArray → List ByteArray → List Bool → Int → Int → Int → Option (List ByteArray × List Bool × Bool)
  | 0, _, _, _, _, _, _ => none
  | k + 1, x0, x5, x6, x8, x9, x10 => spec_l22Form.l1 k x0 x5 x6 x8 x9 x10 x5 (x5.length : Int) 0
def spec_l22Form.l1 : Nat → ByteArray → List ByteArray → List Bool → Int → Int → Int → List ByteArray → Int → Int → Option (List ByteArray × List Bool × Bool)
  | 0, _, _, _, _, _, _, _, _, _ => none
  | k + 1, x0, x5, x6, x8, x9, x10, x89, x90, x91 => if x91 < x90 then (if 0 ≤ x91 then (if x91 < (x89.length : Int) then (if x91 < (x6.length : Int) then (if rdOf false x6 x91 = true then (if 0 ≤ (wrap64 (x9 + 1)) then (if (wrap64 (x9 + 1)) ≤ x10 then (if x10 ≤ (x0.size : Int) then (if (rdOf ByteArray.empty x89 x91).toList = (x0.extract ((wrap64 (x9 + 1)) : Int).toNat (x10 : Int).toNat).toList then (some (([] : List ByteArray), ([] : List Bool), false)) else (spec_l22Form.l1 k x0 x5 x6 x8 x9 x10 x89 x90 (wrap64 (x91 + 1)))) else (none)) else (none)) else (none)) else (spec_l22Form.l1 k x0 x5 x6 x8 x9 x10 x89 x90 (wrap64 (x91 + 1)))) else (none)) else (none)) else (none)) else (if 0 ≤ (wrap64 (x9 + 1)) then (if (wrap64 (x9 + 1)) ≤ x10 then (if x10 ≤ (x0.size : Int) then (if x5.length < 8796093022208 then (if x6.length < 140737488355328 then (spec_l22Form.l0 k x0 (x5 ++ [x0.extract ((wrap64 (x9 + 1)) : Int).toNat (x10 : Int).toNat]) (x6 ++ [true]) (⟨#[]⟩ : ByteArray) (wrap64 (x8 + 1)) (wrap64 (x10 + 1))) else (none)) else (none)) else (none)) else (none)) else (none))
end
def spec_l22Form.f (k : Nat) (a0 : ByteArray) : Option (List ByteArray × List Bool × Bool) := if (a0.size : Int) < 1 then (spec_l22Form.j0 k a0 ([] : List ByteArray) ([] : List Bool) (⟨#[]⟩ : ByteArray) true) else ((spec_l22Text.f k a0 100).bind fun t117 => (spec_l22Form.j0 k a0 ([] : List ByteArray) ([] : List Bool) (⟨#[]⟩ : ByteArray) (!t117)))
theorem spec_l22Form.mono_l : ∀ k, (∀ y0 y1 y2 y3 y4, LeO (spec_l22Form.j0 k y0 y1 y2 y3 y4) (spec_l22Form.j0 (k + 1) y0 y1 y2 y3 y4)) ∧ (∀ y0 y1 y2 y3 y4 y5, LeO (spec_l22Form.l0 k y0 y1 y2 y3 y4 y5) (spec_l22Form.l0 (k + 1) y0 y1 y2 y3 y4 y5)) ∧ (∀ y0 y1 y2 y3 y4 y5 y6, LeO (spec_l22Form.j2 k y0 y1 y2 y3 y4 y5 y6) (spec_l22Form.j2 (k + 1) y0 y1 y2 y3 y4 y5 y6)) ∧ (∀ y0 y1 y2 y3 y4 y5 y6 y7, LeO (spec_l22Form.j3 k y0 y1 y2 y3 y4 y5 y6 y7) (spec_l22Form.j3 (k + 1) y0 y1 y2 y3 y4 y5 y6 y7)) ∧ (∀ y0 y1 y2 y3 y4 y5, LeO (spec_l22Form.j4 k y0 y1 y2 y3 y4 y5) (spec_l22Form.j4 (k + 1) y0 y1 y2 y3 y4 y5)) ∧ (∀ y0 y1 y2 y3 y4 y5 y6 y7 y8, LeO (spec_l22Form.l1 k y0 y1 y2 y3 y4 y5 y6 y7 y8) (spec_l22Form.l1 (k + 1) y0 y1 y2 y3 y4 y5 y6 y7 y8))
  | 0 => ⟨fun _ _ _ _ _ r h => by simp [spec_l22Form.j0] at h, fun _ _ _ _ _ _ r h => by simp [spec_l22Form.l0] at h, fun _ _ _ _ _ _ _ r h => by simp [spec_l22Form.j2] at h, fun _ _ _ _ _ _ _ _ r h => by simp [spec_l22Form.j3] at h, fun _ _ _ _ _ _ r h => by simp [spec_l22Form.j4] at h, fun _ _ _ _ _ _ _ _ _ r h => by simp [spec_l22Form.l1] at h⟩
  | k + 1 => by
    obtain ⟨ih0, ih1, ih2, ih3, ih4, ih5⟩ := spec_l22Form.mono_l k
    refine ⟨?_, ?_, ?_, ?_, ?_, ?_⟩
    · intro y0 y1 y2 y3 y4
      unfold spec_l22Form.j0
      repeat' first
      | (with_reducible exact ih0 _ _ _ _ _)
      | (with_reducible exact ih1 _ _ _ _ _ _)
      | (with_reducible exact ih2 _ _ _ _ _ _ _)
      | (with_reducible exact ih3 _ _ _ _ _ _ _ _)
      | (with_reducible exact ih4 _ _ _ _ _ _)
      | (with_reducible exact ih5 _ _ _ _ _ _ _ _ _)
      | (with_reducible exact spec_l22Text.mono _ _ _)
      | (with_reducible exact spec_l2Name.mono _ _)
      | (with_reducible exact spec_l2NameAt.mono _ _ _)
      | (with_reducible exact LeO.refl _)
      | (with_reducible exact LeO.none _)
      | (with_reducible refine LeO.ite ?_ ?_)
      | (with_reducible refine LeO.bind ?_ (fun _ => ?_))
      | exact ih0 _ _ _ _ _
      | exact ih1 _ _ _ _ _ _
      | exact ih2 _ _ _ _ _ _ _
      | exact ih3 _ _ _ _ _ _ _ _
      | exact ih4 _ _ _ _ _ _
      | exact ih5 _ _ _ _ _ _ _ _ _
      | exact spec_l22Text.mono _ _ _
      | exact spec_l2Name.mono _ _
      | exact spec_l2NameAt.mono _ _ _
      | exact LeO.none _
      | refine LeO.ite ?_ ?_
      | refine LeO.bind ?_ (fun _ => ?_)
    · intro y0 y1 y2 y3 y4 y5
      unfold spec_l22Form.l0
      repeat' first
      | (with_reducible exact ih0 _ _ _ _ _)
      | (with_reducible exact ih1 _ _ _ _ _ _)
      | (with_reducible exact ih2 _ _ _ _ _ _ _)
      | (with_reducible exact ih3 _ _ _ _ _ _ _ _)
      | (with_reducible exact ih4 _ _ _ _ _ _)
      | (with_reducible exact ih5 _ _ _ _ _ _ _ _ _)
      | (with_reducible exact spec_l22Text.mono _ _ _)
      | (with_reducible exact spec_l2Name.mono _ _)
      | (with_reducible exact spec_l2NameAt.mono _ _ _)
      | (with_reducible exact LeO.refl _)
      | (with_reducible exact LeO.none _)
      | (with_reducible refine LeO.ite ?_ ?_)
      | (with_reducible refine LeO.bind ?_ (fun _ => ?_))
      | exact ih0 _ _ _ _ _
      | exact ih1 _ _ _ _ _ _
      | exact ih2 _ _ _ _ _ _ _
      | exact ih3 _ _ _ _ _ _ _ _
      | exact ih4 _ _ _ _ _ _
      | exact ih5 _ _ _ _ _ _ _ _ _
      | exact spec_l22Text.mono _ _ _
      | exact spec_l2Name.mono _ _
      | exact spec_l2NameAt.mono _ _ _
      | exact LeO.none _
      | refine LeO.ite ?_ ?_
      | refine LeO.bind ?_ (fun _ => ?_)
    · intro y0 y1 y2 y3 y4 y5 y6
      unfold spec_l22Form.j2
      repeat' first
      | (with_reducible exact ih0 _ _ _ _ _)
      | (with_reducible exact ih1 _ _ _ _ _ _)
      | (with_reducible exact ih2 _ _ _ _ _ _ _)
      | (with_reducible exact ih3 _ _ _ _ _ _ _ _)
      | (with_reducible exact ih4 _ _ _ _ _ _)
      | (with_reducible exact ih5 _ _ _ _ _ _ _ _ _)
      | (with_reducible exact spec_l22Text.mono _ _ _)
      | (with_reducible exact spec_l2Name.mono _ _)
      | (with_reducible exact spec_l2NameAt.mono _ _ _)
      | (with_reducible exact LeO.refl _)
      | (with_reducible exact LeO.none _)
      | (with_reducible refine LeO.ite ?_ ?_)
      | (with_reducible refine LeO.bind ?_ (fun _ => ?_))
      | exact ih0 _ _ _ _ _
      | exact ih1 _ _ _ _ _ _
      | exact ih2 _ _ _ _ _ _ _
      | exact ih3 _ _ _ _ _ _ _ _
      | exact ih4 _ _ _ _ _ _
      | exact ih5 _ _ _ _ _ _ _ _ _
      | exact spec_l22Text.mono _ _ _
      | exact spec_l2Name.mono _ _
      | exact spec_l2NameAt.mono _ _ _
      | exact LeO.none _
      | refine LeO.ite ?_ ?_
      | refine LeO.bind ?_ (fun _ => ?_)
    · intro y0 y1 y2 y3 y4 y5 y6 y7
      unfold spec_l22Form.j3
      repeat' first
      | (with_reducible exact ih0 _ _ _ _ _)
      | (with_reducible exact ih1 _ _ _ _ _ _)
      | (with_reducible exact ih2 _ _ _ _ _ _ _)
      | (with_reducible exact ih3 _ _ _ _ _ _ _ _)
      | (with_reducible exact ih4 _ _ _ _ _ _)
      | (with_reducible exact ih5 _ _ _ _ _ _ _ _ _)
      | (with_reducible exact spec_l22Text.mono _ _ _)
      | (with_reducible exact spec_l2Name.mono _ _)
      | (with_reducible exact spec_l2NameAt.mono _ _ _)
      | (with_reducible exact LeO.refl _)
      | (with_reducible exact LeO.none _)
      | (with_reducible refine LeO.ite ?_ ?_)
      | (with_reducible refine LeO.bind ?_ (fun _ => ?_))
      | exact ih0 _ _ _ _ _
      | exact ih1 _ _ _ _ _ _
      | exact ih2 _ _ _ _ _ _ _
      | exact ih3 _ _ _ _ _ _ _ _
      | exact ih4 _ _ _ _ _ _
      | exact ih5 _ _ _ _ _ _ _ _ _
      | exact spec_l22Text.mono _ _ _
      | exact spec_l2Name.mono _ _
      | exact spec_l2NameAt.mono _ _ _
      | exact LeO.none _
      | refine LeO.ite ?_ ?_
      | refine LeO.bind ?_ (fun _ => ?_)
    · intro y0 y1 y2 y3 y4 y5
      unfold spec_l22Form.j4
      repeat' first
      | (with_reducible exact ih0 _ _ _ _ _)
      | (with_reducible exact ih1 _ _ _ _ _ _)
      | (with_reducible exact ih2 _ _ _ _ _ _ _)
      | (with_reducible exact ih3 _ _ _ _ _ _ _ _)
      | (with_reducible exact ih4 _ _ _ _ _ _)
      | (with_reducible exact ih5 _ _ _ _ _ _ _ _ _)
      | (with_reducible exact spec_l22Text.mono _ _ _)
      | (with_reducible exact spec_l2Name.mono _ _)
      | (with_reducible exact spec_l2NameAt.mono _ _ _)
      | (with_reducible exact LeO.refl _)
      | (with_reducible exact LeO.none _)
      | (with_reducible refine LeO.ite ?_ ?_)
      | (with_reducible refine LeO.bind ?_ (fun _ => ?_))
      | exact ih0 _ _ _ _ _
      | exact ih1 _ _ _ _ _ _
      | exact ih2 _ _ _ _ _ _ _
      | exact ih3 _ _ _ _ _ _ _ _
      | exact ih4 _ _ _ _ _ _
      | exact ih5 _ _ _ _ _ _ _ _ _
      | exact spec_l22Text.mono _ _ _
      | exact spec_l2Name.mono _ _
      | exact spec_l2NameAt.mono _ _ _
      | exact LeO.none _
      | refine LeO.ite ?_ ?_
      | refine LeO.bind ?_ (fun _ => ?_)
    · intro y0 y1 y2 y3 y4 y5 y6 y7 y8
      unfold spec_l22Form.l1
      repeat' first
      | (with_reducible exact ih0 _ _ _ _ _)
      | (with_reducible exact ih1 _ _ _ _ _ _)
      | (with_reducible exact ih2 _ _ _ _ _ _ _)
      | (with_reducible exact ih3 _ _ _ _ _ _ _ _)
      | (with_reducible exact ih4 _ _ _ _ _ _)
      | (with_reducible exact ih5 _ _ _ _ _ _ _ _ _)
      | (with_reducible exact spec_l22Text.mono _ _ _)
      | (with_reducible exact spec_l2Name.mono _ _)
      | (with_reducible exact spec_l2NameAt.mono _ _ _)
      | (with_reducible exact LeO.refl _)
      | (with_reducible exact LeO.none _)
      | (with_reducible refine LeO.ite ?_ ?_)
      | (with_reducible refine LeO.bind ?_ (fun _ => ?_))
      | exact ih0 _ _ _ _ _
      | exact ih1 _ _ _ _ _ _
      | exact ih2 _ _ _ _ _ _ _
      | exact ih3 _ _ _ _ _ _ _ _
      | exact ih4 _ _ _ _ _ _
      | exact ih5 _ _ _ _ _ _ _ _ _
      | exact spec_l22Text.mono _ _ _
      | exact spec_l2Name.mono _ _
      | exact spec_l2NameAt.mono _ _ _
      | exact LeO.none _
      | refine LeO.ite ?_ ?_
      | refine LeO.bind ?_ (fun _ => ?_)
theorem spec_l22Form.mono : ∀ a0 k, LeO (spec_l22Form.f k a0) (spec_l22Form.f (k + 1) a0) := by
  intro a0 k
  obtain ⟨ih0, ih1, ih2, ih3, ih4, ih5⟩ := spec_l22Form.mono_l k
  unfold spec_l22Form.f
  repeat' first
      | (with_reducible exact ih0 _ _ _ _ _)
      | (with_reducible exact ih1 _ _ _ _ _ _)
      | (with_reducible exact ih2 _ _ _ _ _ _ _)
      | (with_reducible exact ih3 _ _ _ _ _ _ _ _)
      | (with_reducible exact ih4 _ _ _ _ _ _)
      | (with_reducible exact ih5 _ _ _ _ _ _ _ _ _)
      | (with_reducible exact spec_l22Text.mono _ _ _)
      | (with_reducible exact spec_l2Name.mono _ _)
      | (with_reducible exact spec_l2NameAt.mono _ _ _)
      | (with_reducible exact LeO.refl _)
      | (with_reducible exact LeO.none _)
      | (with_reducible refine LeO.ite ?_ ?_)
      | (with_reducible refine LeO.bind ?_ (fun _ => ?_))
      | exact ih0 _ _ _ _ _
      | exact ih1 _ _ _ _ _ _
      | exact ih2 _ _ _ _ _ _ _
      | exact ih3 _ _ _ _ _ _ _ _
      | exact ih4 _ _ _ _ _ _
      | exact ih5 _ _ _ _ _ _ _ _ _
      | exact spec_l22Text.mono _ _ _
      | exact spec_l2Name.mono _ _
      | exact spec_l2NameAt.mono _ _ _
      | exact LeO.none _
      | refine LeO.ite ?_ ?_
      | refine LeO.bind ?_ (fun _ => ?_)
set_option maxHeartbeats 8000000 in
set_option maxRecDepth 100000 in
theorem spec_l22Form.calls (k : Nat) (a0 : ByteArray) (r1 : List ByteArray) (r2 : List Bool) (r3 : Bool) (w : World) (h : spec_l22Form.f k a0 = some (r1, r2, r3)) :
    Calls Try.prog 9 #[.string a0] w fun e w' => ∃ v0_ v1_ : Value, e = .returned (.tuple #[v0_, v1_, .bool r3]) ∧ Kd.R Kd.string 9 w' w.heap.size (fun _ => True) v0_ r1 ∧ Kd.R Kd.bool 4 w' w.heap.size (fun _ => True) v1_ r2 ∧ Below w.heap.size w w' := by
  have HB := Aside0.mk (Below.refl w.heap.size w)
  have H : (if (a0.size : Int) < 1 then (spec_l22Form.j0 k a0 ([] : List ByteArray) ([] : List Bool) (⟨#[]⟩ : ByteArray) true) else ((spec_l22Text.f k a0 100).bind fun t117 => (spec_l22Form.j0 k a0 ([] : List ByteArray) ([] : List Bool) (⟨#[]⟩ : ByteArray) (!t117)))) = some (r1, r2, r3) := h
  clear h
  have HC2 := Aside0.mk H
  clear H
  go_enter Try.func9, Try.ntmps9
  go_upto_region 4 with (fail)
  go_cut [21] (fun v21 wc => ∃ (kq : Nat) (x21_1 : Bool), v21 = .bool x21_1 ∧ Aside0 (spec_l22Form.j0 kq a0 ([] : List ByteArray) ([] : List Bool) (⟨#[]⟩ : ByteArray) x21_1 = some (r1, r2, r3)) ∧ Aside0 (kq ≤ k) ∧ Aside0 (Kd.R Kd.string 9 wc w.heap.size (fun _ => True) (.slice none 0 0) ([] : List ByteArray)) ∧ Aside0 (Kd.R Kd.bool 4 wc w.heap.size (fun _ => True) (.slice none 0 0) ([] : List Bool)) ∧ Aside0 (Below w.heap.size w wc))
  case first =>
    have H := HC2.out
    clear HC2
    by_cases c3 : (a0.size : Int) < 1
    · rw [if_pos c3] at H
      have c3b0 : decide ((a0.size : Int) < 1) = true := decide_eq_true c3
      have c3b1 : decide (a0.size < 1) = true := decide_eq_true (by omega)
      clear c3
      (first | rw [c3b0] | (simp only [i64_w, i32_w]; rw [c3b0]) | rw [c3b2] | rw [c3b1] | skip)
      have H' := Aside0.mk H
      clear H
      go_wp2
      go_meet
      case rel => exact ⟨_, (true), (by first | rfl | (simp; done) | (simp [*]; done)), H', ⟨by first | omega | exact Nat.le_refl _⟩, ⟨by first | exact Kd.R_nil _ _ _ _ _ | exact Kd.N_nil _ _ _ _ _ | exact Kd.V_nil _ _ _ _ _ | exact Kd.Q_nil _ _ _ _ _ | exact Kd.S_nil _ _ _ _ _⟩, ⟨by first | exact Kd.R_nil _ _ _ _ _ | exact Kd.N_nil _ _ _ _ _ | exact Kd.V_nil _ _ _ _ _ | exact Kd.Q_nil _ _ _ _ _ | exact Kd.S_nil _ _ _ _ _⟩, ⟨by repeat (first | (with_reducible first | exact HB.out | apply below_alloc | apply pw_below_drewN | apply below_drew1) | exact HB.out)⟩⟩
    · rw [if_neg c3] at H
      have c3b0 : decide ((a0.size : Int) < 1) = false := decide_eq_false c3
      have c3b1 : decide (a0.size < 1) = false := decide_eq_false (by omega)
      clear c3
      (first | rw [c3b0] | (simp only [i64_w, i32_w]; rw [c3b0]) | rw [c3b2] | rw [c3b1] | skip)
      replace H := Option.bind_eq_some_iff.mp H
      obtain ⟨t117, A40, H⟩ := H
      replace H : (spec_l22Form.j0 k a0 ([] : List ByteArray) ([] : List Bool) (⟨#[]⟩ : ByteArray) (!t117)) = some (r1, r2, r3) := H
      have A4 := Aside0.mk A40
      clear A40
      have H' := Aside0.mk H
      clear H
      go_wp2_with (first | (go_at_call 10; (with_reducible refine (spec_l22Text.calls k a0 100 t117 _ A4.out).mono ?_); rintro e w' ⟨rfl, ⟨nd, rfl⟩⟩))
      go_meet
      case rel => exact ⟨_, (!t117), (by first | rfl | (simp; done) | (simp [*]; done)), H', ⟨by first | omega | exact Nat.le_refl _⟩, ⟨by first | exact Kd.R_nil _ _ _ _ _ | exact Kd.N_nil _ _ _ _ _ | exact Kd.V_nil _ _ _ _ _ | exact Kd.Q_nil _ _ _ _ _ | exact Kd.S_nil _ _ _ _ _⟩, ⟨by first | exact Kd.R_nil _ _ _ _ _ | exact Kd.N_nil _ _ _ _ _ | exact Kd.V_nil _ _ _ _ _ | exact Kd.Q_nil _ _ _ _ _ | exact Kd.S_nil _ _ _ _ _⟩, ⟨by repeat (first | (with_reducible first | exact HB.out | apply below_alloc | apply pw_below_drewN | apply below_drew1) | exact HB.out)⟩⟩
  case rest =>
    clear HC2
    try clear p2
    try clear c3
    try clear c3b0
    try clear c3b1
    obtain ⟨kq, x21_1, rfl, HA, HJ1, HO_5, HO_6, HB⟩ := hcut
    cases kq with
    | zero => exact absurd HA.out (by simp [spec_l22Form.j0])
    | succ kj1 =>
      have H := HA.out
      clear HA
      simp only [spec_l22Form.j0] at H
      by_cases c5 : x21_1 = true
      · subst c5
        have H1 : (some (([] : List ByteArray), ([] : List Bool), false)) = some (r1, r2, r3) := by rw [if_pos rfl] at H; exact H
        clear H
        have H := H1
        clear H1
        simp only [Option.some.injEq, Prod.mk.injEq] at H
        obtain ⟨rfl, rfl, rfl⟩ := H
        go_wp2
        go_ret3
        exact ⟨_, _, by first | rfl | (simp [bne]; done) | (simp [errW_none, errW_some] <;> rfl) | (simp [*, errW_none, errW_some] <;> rfl), by first | exact Kd.R_nil _ _ _ _ _ | exact Kd.N_nil _ _ _ _ _ | exact Kd.V_nil _ _ _ _ _ | exact Kd.Q_nil _ _ _ _ _ | exact Kd.S_nil _ _ _ _ _, by first | exact Kd.R_nil _ _ _ _ _ | exact Kd.N_nil _ _ _ _ _ | exact Kd.V_nil _ _ _ _ _ | exact Kd.Q_nil _ _ _ _ _ | exact Kd.S_nil _ _ _ _ _, by repeat (first | (with_reducible first | exact HB.out | apply below_alloc | apply pw_below_drewN | apply below_drew1) | exact HB.out)⟩
      · replace c5 := Bool.eq_false_iff.mpr c5
        subst c5
        have H1 : (spec_l22Form.l0 kj1 a0 ([] : List ByteArray) ([] : List Bool) (⟨#[]⟩ : ByteArray) 0 0) = some (r1, r2, r3) := by rw [if_neg (show ¬ (false = true) by decide)] at H; exact H
        clear H
        have H := H1
        clear H1
        have H' := Aside0.mk H
        clear H
        go_wp2
        go_loopg [5, 6, 7, 8, 9] kj1 (fun kq v5 v6 v7 v8 v9 w' => ∃ (x5_2 : List ByteArray) (x6_2 : List Bool) (x7_2 : ByteArray) (x8_2 : Int) (x9_2 : Int), v7 = .string x7_2 ∧ v8 = .int .i64 x8_2 ∧ v9 = .int .i64 x9_2 ∧ Aside0 (spec_l22Form.l0 kq a0 x5_2 x6_2 x7_2 x8_2 x9_2 = some (r1, r2, r3)) ∧ Aside0 (kq ≤ kj1) ∧ Aside0 (Kd.R Kd.string 9 w' w.heap.size (fun _ => True) v5 x5_2) ∧ Aside0 (Kd.R Kd.bool 4 w' w.heap.size (fun _ => True) v6 x6_2) ∧ Aside0 (Below w.heap.size w w'))
        case atStart => exact ⟨(([] : List ByteArray)), (([] : List Bool)), ((⟨#[]⟩ : ByteArray)), (0), (0), (by first | rfl | (simp; done) | (simp [*]; done)), (by first | rfl | (simp; done) | (simp [*]; done)), (by first | rfl | (simp; done) | (simp [*]; done)), H', ⟨Nat.le_refl _⟩, ⟨by (with_reducible repeat (first | apply Kd.R_alloc | apply Kd.R_drewN | apply Kd.R_drew)); exact HO_5.out⟩, ⟨by (with_reducible repeat (first | apply Kd.R_alloc | apply Kd.R_drewN | apply Kd.R_drew)); exact HO_6.out⟩, ⟨by repeat (first | (with_reducible first | exact HB.out | apply below_alloc | apply pw_below_drewN | apply below_drew1) | exact HB.out)⟩⟩
        case round =>
          clear H'
          try clear p2
          try clear c3
          try clear c3b0
          try clear c3b1
          try clear c5
          try clear p2
          obtain ⟨x5_2, x6_2, x7_2, x8_2, x9_2, rfl, rfl, rfl, HA, HK2, HO_5, HO_6, HB⟩ := hrel
          cases gk with
          | zero => exact absurd HA.out (by simp [spec_l22Form.l0])
          | succ k2 =>
            have H := HA.out
            clear HA
            simp only [spec_l22Form.l0] at H
            by_cases c6 : x9_2 < (a0.size : Int)
            · rw [if_pos c6] at H
              have c6b0 : decide (x9_2 < (a0.size : Int)) = true := decide_eq_true c6
              clear c6
              by_cases c7 : 0 ≤ x9_2
              · rw [if_pos c7] at H
                have c7b0 : decide (0 ≤ x9_2) = true := decide_eq_true c7
                clear c7
                have HC9 := Aside0.mk H
                clear H
                have p8 : 0 ≤ (x9_2 : Int) := of_decide_eq_true (by first | (with_reducible assumption) | assumption)
                have q8 : x9_2 < (a0.size : Int) := of_decide_eq_true (by first | (with_reducible assumption) | assumption)
                have hx8 := bt_at a0 x9_2
                replace p8 := eq_true p8
                replace q8 := eq_true q8
                go_upto_if 32 with (fail)
                go_cut [10] (fun v10 wc => ∃ (kq : Nat) (x10_8 : Int), v10 = .int .i64 x10_8 ∧ Aside0 (spec_l22Form.j2 kq a0 x5_2 x6_2 x7_2 x8_2 x9_2 x10_8 = some (r1, r2, r3)) ∧ Aside0 (kq ≤ k2) ∧ Aside0 (Kd.R Kd.string 9 wc w.heap.size (fun _ => True) u5 x5_2) ∧ Aside0 (Kd.R Kd.bool 4 wc w.heap.size (fun _ => True) u6 x6_2) ∧ Aside0 (Below w.heap.size w wc))
                case first =>
                  have H := HC9.out
                  clear HC9
                  by_cases c10 : (bt a0 x9_2) = 60
                  · rw [if_pos c10] at H
                    have c10b0 : ((bt a0 x9_2) == 60) = true := beq_iff_eq.mpr c10
                    have c10b1 : ((bt a0 x9_2) != 60) = false := bne_eq_false_iff_eq.mpr c10
                    clear c10
                    (first | rw [c10b0] | (simp only [i64_w, i32_w]; rw [c10b0]) | rw [c10b2] | rw [c10b1] | skip)
                    replace H := Option.bind_eq_some_iff.mp H
                    obtain ⟨t124, A110, H⟩ := H
                    replace H : (spec_l22Form.j2 k2 a0 x5_2 x6_2 x7_2 x8_2 x9_2 t124) = some (r1, r2, r3) := H
                    have A11 := Aside0.mk A110
                    clear A110
                    have H' := Aside0.mk H
                    clear H
                    go_wp2_with (first | ((with_reducible refine gate_callee (f := 17) rfl ?_); refine goesL_ (some 36) rfl rfl Try.func17 (by kernel_rfl) rfl #[.string a0, .int .i64 (wrap64 (x9_2 + 1))] rfl (by (try simp only [List.map_toArray, List.map_cons, List.map_nil]); first | done | rfl | (simp only [List.length_drop, List.length_take]; rfl)) ?_; (with_reducible refine (spec_l2NameAt.calls k2 a0 (wrap64 (x9_2 + 1)) t124 _ A11.out).mono ?_); rintro e w' ⟨rfl, ⟨nd, rfl⟩⟩; refine ⟨_, rfl, ?_⟩))
                    go_meet
                    case rel => exact ⟨_, (t124), (by first | rfl | (simp; done) | (simp [*]; done)), H', ⟨by have := HJ1.out; have := HK2.out; first | omega | exact Nat.le_refl _⟩, ⟨by (with_reducible repeat (first | apply Kd.R_alloc | apply Kd.R_drewN | apply Kd.R_drew)); exact HO_5.out⟩, ⟨by (with_reducible repeat (first | apply Kd.R_alloc | apply Kd.R_drewN | apply Kd.R_drew)); exact HO_6.out⟩, ⟨by repeat (first | (with_reducible first | exact HB.out | apply below_alloc | apply pw_below_drewN | apply below_drew1) | exact HB.out)⟩⟩
                  · rw [if_neg c10] at H
                    have c10b0 : ((bt a0 x9_2) == 60) = false := beq_eq_false_iff_ne.mpr c10
                    have c10b1 : ((bt a0 x9_2) != 60) = true := bne_iff_ne.mpr c10
                    (first | rw [c10b0] | (simp only [i64_w, i32_w]; rw [c10b0]) | rw [c10b2] | rw [c10b1] | skip)
                    have H' := Aside0.mk H
                    clear H
                    go_wp2
                    go_meet
                    case rel => exact ⟨_, (x9_2), (by first | rfl | (simp; done) | (simp [*]; done)), H', ⟨by have := HJ1.out; have := HK2.out; first | omega | exact Nat.le_refl _⟩, ⟨by (with_reducible repeat (first | apply Kd.R_alloc | apply Kd.R_drewN | apply Kd.R_drew)); exact HO_5.out⟩, ⟨by (with_reducible repeat (first | apply Kd.R_alloc | apply Kd.R_drewN | apply Kd.R_drew)); exact HO_6.out⟩, ⟨by repeat (first | (with_reducible first | exact HB.out | apply below_alloc | apply pw_below_drewN | apply below_drew1) | exact HB.out)⟩⟩
                case rest =>
                  clear HC9
                  try clear c1
                  try clear p2
                  try clear c3
                  try clear c3b0
                  try clear c3b1
                  try clear c5
                  try clear c6
                  try clear c6b0
                  try clear p6
                  try clear c7
                  try clear c7b0
                  try clear p8
                  try clear q8
                  try clear hx8
                  try clear c9
                  try clear c10
                  try clear c10b0
                  try clear c10b1
                  try clear p2
                  try clear p8
                  try clear q8
                  obtain ⟨kq, x10_8, rfl, HA, HJ8, HO_5, HO_6, HB⟩ := hcut
                  cases kq with
                  | zero => exact absurd HA.out (by simp [spec_l22Form.j2])
                  | succ kj8 =>
                    have H := HA.out
                    clear HA
                    simp only [spec_l22Form.j2] at H
                    have HC12 := Aside0.mk H
                    clear H
                    go_upto_region 13 with (fail)
                    go_cut [61] (fun v61 wc => ∃ (kq : Nat) (x61_11 : Bool), v61 = .bool x61_11 ∧ Aside0 (spec_l22Form.j3 kq a0 x5_2 x6_2 x7_2 x8_2 x9_2 x10_8 x61_11 = some (r1, r2, r3)) ∧ Aside0 (kq ≤ kj8) ∧ Aside0 (Kd.R Kd.string 9 wc w.heap.size (fun _ => True) u5 x5_2) ∧ Aside0 (Kd.R Kd.bool 4 wc w.heap.size (fun _ => True) u6 x6_2) ∧ Aside0 (Below w.heap.size w wc))
                    case first =>
                      have H := HC12.out
                      clear HC12
                      by_cases c13 : 0 ≤ x9_2
                      · rw [if_pos c13] at H
                        have c13b0 : decide (0 ≤ x9_2) = true := decide_eq_true c13
                        clear c13
                        (first | rw [c13b0] | (simp only [i64_w, i32_w]; rw [c13b0]) | rw [c13b2] | rw [c13b1] | skip)
                        by_cases c14 : x9_2 < (a0.size : Int)
                        · rw [if_pos c14] at H
                          have c14b0 : decide (x9_2 < (a0.size : Int)) = true := decide_eq_true c14
                          clear c14
                          by_cases c16 : (bt a0 x9_2) = 60
                          · rw [if_pos c16] at H
                            have c16b0 : ((bt a0 x9_2) == 60) = true := beq_iff_eq.mpr c16
                            have c16b1 : ((bt a0 x9_2) != 60) = false := bne_eq_false_iff_eq.mpr c16
                            clear c16
                            by_cases c17 : x10_8 ≥ (a0.size : Int)
                            · rw [if_pos c17] at H
                              have c17b0 : decide ((a0.size : Int) ≤ x10_8) = true := decide_eq_true c17
                              clear c17
                              have H' := Aside0.mk H
                              clear H
                              have p15 : 0 ≤ (x9_2 : Int) := of_decide_eq_true (by first | (with_reducible assumption) | assumption)
                              have q15 : x9_2 < (a0.size : Int) := of_decide_eq_true (by first | (with_reducible assumption) | assumption)
                              have hx15 := bt_at a0 x9_2
                              replace p15 := eq_true p15
                              replace q15 := eq_true q15
                              go_wp2
                              go_meet
                              case rel => exact ⟨_, (true), (by first | rfl | (simp; done) | (simp [*]; done)), H', ⟨by have := HJ1.out; have := HK2.out; have := HJ8.out; first | omega | exact Nat.le_refl _⟩, ⟨by (with_reducible repeat (first | apply Kd.R_alloc | apply Kd.R_drewN | apply Kd.R_drew)); exact HO_5.out⟩, ⟨by (with_reducible repeat (first | apply Kd.R_alloc | apply Kd.R_drewN | apply Kd.R_drew)); exact HO_6.out⟩, ⟨by repeat (first | (with_reducible first | exact HB.out | apply below_alloc | apply pw_below_drewN | apply below_drew1) | exact HB.out)⟩⟩
                            · rw [if_neg c17] at H
                              have c17b0 : decide ((a0.size : Int) ≤ x10_8) = false := decide_eq_false c17
                              clear c17
                              by_cases c18 : 0 ≤ x10_8
                              · rw [if_pos c18] at H
                                have c18b0 : decide (0 ≤ x10_8) = true := decide_eq_true c18
                                clear c18
                                by_cases c19 : x10_8 < (a0.size : Int)
                                · rw [if_pos c19] at H
                                  have c19b0 : decide (x10_8 < (a0.size : Int)) = true := decide_eq_true c19
                                  clear c19
                                  by_cases c21 : (bt a0 x10_8) = 62
                                  · rw [if_pos c21] at H
                                    have c21b0 : ((bt a0 x10_8) == 62) = true := beq_iff_eq.mpr c21
                                    have c21b1 : ((bt a0 x10_8) != 62) = false := bne_eq_false_iff_eq.mpr c21
                                    clear c21
                                    obtain ⟨ji22, hji22⟩ : ∃ j_ : Int, (wrap64 (x9_2 + 1)) = j_ := ⟨_, rfl⟩
                                    replace H : (if 0 ≤ (ji22) then (if (ji22) ≤ x10_8 then (if x10_8 ≤ (a0.size : Int) then ((spec_l2Name.f kj8 (a0.extract ((ji22) : Int).toNat (x10_8 : Int).toNat)).bind fun t125 => (spec_l22Form.j3 kj8 a0 x5_2 x6_2 x7_2 x8_2 x9_2 x10_8 (!t125))) else (none)) else (none)) else (none)) = some (r1, r2, r3) := by first | (rw [hji22] at H; exact H) | (simp only [hji22] at H ⊢; exact H)
                                    have hji22w : (IntKind.i64.wrap (x9_2 + 1)) = ji22 := (i64_w _).trans hji22
                                    by_cases c23 : 0 ≤ (ji22)
                                    · rw [if_pos c23] at H
                                      have c23b0 := eq_true c23
                                      have c23b1 : decide (0 ≤ (ji22)) = true := decide_eq_true c23
                                      clear c23
                                      by_cases c24 : (ji22) ≤ x10_8
                                      · rw [if_pos c24] at H
                                        have c24b0 := eq_true c24
                                        have c24b1 : decide ((ji22) ≤ x10_8) = true := decide_eq_true c24
                                        clear c24
                                        by_cases c25 : x10_8 ≤ (a0.size : Int)
                                        · rw [if_pos c25] at H
                                          have c25b0 := eq_true c25
                                          have c25b1 : decide (x10_8 ≤ (a0.size : Int)) = true := decide_eq_true c25
                                          clear c25
                                          replace H := Option.bind_eq_some_iff.mp H
                                          obtain ⟨t125, A260, H⟩ := H
                                          replace H : (spec_l22Form.j3 kj8 a0 x5_2 x6_2 x7_2 x8_2 x9_2 x10_8 (!t125)) = some (r1, r2, r3) := H
                                          have A26 := Aside0.mk A260
                                          clear A260
                                          have H' := Aside0.mk H
                                          clear H
                                          have p15 : 0 ≤ (x9_2 : Int) := of_decide_eq_true (by first | (with_reducible assumption) | assumption)
                                          have q15 : x9_2 < (a0.size : Int) := of_decide_eq_true (by first | (with_reducible assumption) | assumption)
                                          have hx15 := bt_at a0 x9_2
                                          replace p15 := eq_true p15
                                          replace q15 := eq_true q15
                                          have p20 : 0 ≤ (x10_8 : Int) := of_decide_eq_true (by first | (with_reducible assumption) | assumption)
                                          have q20 : x10_8 < (a0.size : Int) := of_decide_eq_true (by first | (with_reducible assumption) | assumption)
                                          have hx20 := bt_at a0 x10_8
                                          replace p20 := eq_true p20
                                          replace q20 := eq_true q20
                                          go_wp2_with (first | (go_at_call 18; (with_reducible refine (spec_l2Name.calls kj8 (a0.extract ((ji22) : Int).toNat (x10_8 : Int).toNat) t125 _ A26.out).mono ?_); rintro e w' ⟨rfl, ⟨nd, rfl⟩⟩))
                                          go_meet
                                          case rel => exact ⟨_, (!t125), (by first | rfl | (simp; done) | (simp [*]; done)), H', ⟨by have := HJ1.out; have := HK2.out; have := HJ8.out; first | omega | exact Nat.le_refl _⟩, ⟨by (with_reducible repeat (first | apply Kd.R_alloc | apply Kd.R_drewN | apply Kd.R_drew)); exact HO_5.out⟩, ⟨by (with_reducible repeat (first | apply Kd.R_alloc | apply Kd.R_drewN | apply Kd.R_drew)); exact HO_6.out⟩, ⟨by repeat (first | (with_reducible first | exact HB.out | apply below_alloc | apply pw_below_drewN | apply below_drew1) | exact HB.out)⟩⟩
                                        · rw [if_neg c25] at H
                                          exact absurd H (by simp)
                                      · rw [if_neg c24] at H
                                        exact absurd H (by simp)
                                    · rw [if_neg c23] at H
                                      exact absurd H (by simp)
                                  · rw [if_neg c21] at H
                                    have c21b0 : ((bt a0 x10_8) == 62) = false := beq_eq_false_iff_ne.mpr c21
                                    have c21b1 : ((bt a0 x10_8) != 62) = true := bne_iff_ne.mpr c21
                                    have H' := Aside0.mk H
                                    clear H
                                    have p15 : 0 ≤ (x9_2 : Int) := of_decide_eq_true (by first | (with_reducible assumption) | assumption)
                                    have q15 : x9_2 < (a0.size : Int) := of_decide_eq_true (by first | (with_reducible assumption) | assumption)
                                    have hx15 := bt_at a0 x9_2
                                    replace p15 := eq_true p15
                                    replace q15 := eq_true q15
                                    have p20 : 0 ≤ (x10_8 : Int) := of_decide_eq_true (by first | (with_reducible assumption) | assumption)
                                    have q20 : x10_8 < (a0.size : Int) := of_decide_eq_true (by first | (with_reducible assumption) | assumption)
                                    have hx20 := bt_at a0 x10_8
                                    replace p20 := eq_true p20
                                    replace q20 := eq_true q20
                                    go_wp2
                                    go_meet
                                    case rel => exact ⟨_, (true), (by first | rfl | (simp; done) | (simp [*]; done)), H', ⟨by have := HJ1.out; have := HK2.out; have := HJ8.out; first | omega | exact Nat.le_refl _⟩, ⟨by (with_reducible repeat (first | apply Kd.R_alloc | apply Kd.R_drewN | apply Kd.R_drew)); exact HO_5.out⟩, ⟨by (with_reducible repeat (first | apply Kd.R_alloc | apply Kd.R_drewN | apply Kd.R_drew)); exact HO_6.out⟩, ⟨by repeat (first | (with_reducible first | exact HB.out | apply below_alloc | apply pw_below_drewN | apply below_drew1) | exact HB.out)⟩⟩
                                · rw [if_neg c19] at H
                                  exact absurd H (by simp)
                              · rw [if_neg c18] at H
                                exact absurd H (by simp)
                          · rw [if_neg c16] at H
                            have c16b0 : ((bt a0 x9_2) == 60) = false := beq_eq_false_iff_ne.mpr c16
                            have c16b1 : ((bt a0 x9_2) != 60) = true := bne_iff_ne.mpr c16
                            have H' := Aside0.mk H
                            clear H
                            have p15 : 0 ≤ (x9_2 : Int) := of_decide_eq_true (by first | (with_reducible assumption) | assumption)
                            have q15 : x9_2 < (a0.size : Int) := of_decide_eq_true (by first | (with_reducible assumption) | assumption)
                            have hx15 := bt_at a0 x9_2
                            replace p15 := eq_true p15
                            replace q15 := eq_true q15
                            go_wp2
                            go_meet
                            case rel => exact ⟨_, (true), (by first | rfl | (simp; done) | (simp [*]; done)), H', ⟨by have := HJ1.out; have := HK2.out; have := HJ8.out; first | omega | exact Nat.le_refl _⟩, ⟨by (with_reducible repeat (first | apply Kd.R_alloc | apply Kd.R_drewN | apply Kd.R_drew)); exact HO_5.out⟩, ⟨by (with_reducible repeat (first | apply Kd.R_alloc | apply Kd.R_drewN | apply Kd.R_drew)); exact HO_6.out⟩, ⟨by repeat (first | (with_reducible first | exact HB.out | apply below_alloc | apply pw_below_drewN | apply below_drew1) | exact HB.out)⟩⟩
                        · rw [if_neg c14] at H
                          exact absurd H (by simp)
                      · rw [if_neg c13] at H
                        exact absurd H (by simp)
                    case rest =>
                      clear HC12
                      try clear c1
                      try clear p1
                      try clear q1
                      try clear hx1
                      try clear c2
                      try clear p2
                      try clear q2
                      try clear hx2
                      try clear c3
                      try clear c3b0
                      try clear c3b1
                      try clear c5
                      try clear c6
                      try clear c6b0
                      try clear p6
                      try clear c7
                      try clear c7b0
                      try clear p8
                      try clear q8
                      try clear hx8
                      try clear c9
                      try clear c10
                      try clear c10b0
                      try clear c10b1
                      try clear c13
                      try clear c13b0
                      try clear c14
                      try clear c14b0
                      try clear p15
                      try clear q15
                      try clear hx15
                      try clear c16
                      try clear c16b0
                      try clear c16b1
                      try clear c17
                      try clear c17b0
                      try clear c18
                      try clear c18b0
                      try clear c19
                      try clear c19b0
                      try clear p20
                      try clear q20
                      try clear hx20
                      try clear c21
                      try clear c21b0
                      try clear c21b1
                      try clear c23
                      try clear c23b0
                      try clear c23b1
                      try clear c24
                      try clear c24b0
                      try clear c24b1
                      try clear c25
                      try clear c25b0
                      try clear c25b1
                      try clear p15
                      try clear p2
                      try clear p20
                      try clear p6
                      try clear p8
                      try clear q15
                      try clear q20
                      try clear q8
                      obtain ⟨kq, x61_11, rfl, HA, HJ11, HO_5, HO_6, HB⟩ := hcut
                      cases kq with
                      | zero => exact absurd HA.out (by simp [spec_l22Form.j3])
                      | succ kj11 =>
                        have H := HA.out
                        clear HA
                        simp only [spec_l22Form.j3] at H
                        by_cases c27 : x61_11 = true
                        · subst c27
                          have H1 : (if 0 ≤ x9_2 then (if x9_2 ≤ (wrap64 (x9_2 + 1)) then (if (wrap64 (x9_2 + 1)) ≤ (a0.size : Int) then (if x7_2.size + (a0.extract (x9_2 : Int).toNat ((wrap64 (x9_2 + 1)) : Int).toNat).size ≤ 9223372036854775807 then (spec_l22Form.l0 kj11 a0 x5_2 x6_2 (x7_2 ++ (a0.extract (x9_2 : Int).toNat ((wrap64 (x9_2 + 1)) : Int).toNat)) x8_2 (wrap64 (x9_2 + 1))) else (none)) else (none)) else (none)) else (none)) = some (r1, r2, r3) := by rw [if_pos rfl] at H; exact H
                          clear H
                          have H := H1
                          clear H1
                          by_cases c28 : 0 ≤ x9_2
                          · rw [if_pos c28] at H
                            have c28b0 := eq_true c28
                            have c28b1 : decide (0 ≤ x9_2) = true := decide_eq_true c28
                            clear c28
                            by_cases c29 : x9_2 ≤ (wrap64 (x9_2 + 1))
                            · rw [if_pos c29] at H
                              have c29b0 := eq_true c29
                              have c29b1 : decide (x9_2 ≤ (wrap64 (x9_2 + 1))) = true := decide_eq_true c29
                              by_cases c30 : (wrap64 (x9_2 + 1)) ≤ (a0.size : Int)
                              · rw [if_pos c30] at H
                                have c30b0 := eq_true c30
                                have c30b1 : decide ((wrap64 (x9_2 + 1)) ≤ (a0.size : Int)) = true := decide_eq_true c30
                                by_cases c31 : x7_2.size + (a0.extract (x9_2 : Int).toNat ((wrap64 (x9_2 + 1)) : Int).toNat).size ≤ 9223372036854775807
                                · rw [if_pos c31] at H
                                  have c31b0 := eq_true c31
                                  have c31b1 : decide (x7_2.size + (a0.extract (x9_2 : Int).toNat ((wrap64 (x9_2 + 1)) : Int).toNat).size ≤ 9223372036854775807) = true := decide_eq_true c31
                                  try have c31b2 : (9223372036854775807 < x7_2.size + (a0.extract (x9_2 : Int).toNat ((wrap64 (x9_2 + 1)) : Int).toNat).size) = False := eq_false (Nat.not_lt.2 c31)
                                  have H' := Aside0.mk H
                                  clear H
                                  go_wp2
                                  go_roundg kj11
                                  case measure => have := HJ1.out; have := HK2.out; have := HJ8.out; have := HJ11.out; omega
                                  case rel => exact ⟨(x5_2), (x6_2), (x7_2 ++ (a0.extract (x9_2 : Int).toNat ((wrap64 (x9_2 + 1)) : Int).toNat)), (x8_2), (wrap64 (x9_2 + 1)), (by first | rfl | (simp; done) | (simp [*]; done)), (by first | rfl | (simp; done) | (simp [*]; done)), (by first | rfl | (simp; done) | (simp [*]; done)), H', ⟨by have := HJ1.out; have := HK2.out; have := HJ8.out; have := HJ11.out; omega⟩, ⟨by (with_reducible repeat (first | apply Kd.R_alloc | apply Kd.R_drewN | apply Kd.R_drew)); exact HO_5.out⟩, ⟨by (with_reducible repeat (first | apply Kd.R_alloc | apply Kd.R_drewN | apply Kd.R_drew)); exact HO_6.out⟩, ⟨by repeat (first | (with_reducible first | exact HB.out | apply below_alloc | apply pw_below_drewN | apply below_drew1) | exact HB.out)⟩⟩
                                · rw [if_neg c31] at H
                                  exact absurd H (by simp)
                              · rw [if_neg c30] at H
                                exact absurd H (by simp)
                            · rw [if_neg c29] at H
                              exact absurd H (by simp)
                          · rw [if_neg c28] at H
                            exact absurd H (by simp)
                        · replace c27 := Bool.eq_false_iff.mpr c27
                          subst c27
                          have H1 : (if x7_2.toList = ([] : List UInt8) then (if (x5_2.length : Int) > 0 then (if 0 ≤ (wrap64 ((x5_2.length : Int) - 1)) then (if (wrap64 ((x5_2.length : Int) - 1)) < (x6_2.length : Int) then (if rdOf false x6_2 (wrap64 ((x5_2.length : Int) - 1)) = true then (some (([] : List ByteArray), ([] : List Bool), false)) else (spec_l22Form.j4 kj11 a0 x5_2 x6_2 x8_2 x9_2 x10_8)) else (none)) else (none)) else (spec_l22Form.j4 kj11 a0 x5_2 x6_2 x8_2 x9_2 x10_8)) else (if x5_2.length < 8796093022208 then (if x6_2.length < 140737488355328 then (spec_l22Form.j4 kj11 a0 (x5_2 ++ [x7_2]) (x6_2 ++ [false]) x8_2 x9_2 x10_8) else (none)) else (none))) = some (r1, r2, r3) := by rw [if_neg (show ¬ (false = true) by decide)] at H; exact H
                          clear H
                          have H := H1
                          clear H1
                          have HC32 := Aside0.mk H
                          clear H
                          obtain ⟨Ao33, co33, eo33⟩ := Kd.R_slice HO_5.out
                          subst eo33
                          go_upto_if 72 with (fail)
                          go_cut [5, 6] (fun v5 v6 wc => ∃ (kq : Nat) (x5_31 : List ByteArray) (x6_31 : List Bool), Aside0 (spec_l22Form.j4 kq a0 x5_31 x6_31 x8_2 x9_2 x10_8 = some (r1, r2, r3)) ∧ Aside0 (kq ≤ kj11) ∧ Aside0 (Kd.R Kd.string 9 wc w.heap.size (fun _ => True) v5 x5_31) ∧ Aside0 (Kd.R Kd.bool 4 wc w.heap.size (fun _ => True) v6 x6_31) ∧ Aside0 (Below w.heap.size w wc))
                          case first =>
                            have H := HC32.out
                            clear HC32
                            by_cases c34 : x7_2.toList = ([] : List UInt8)
                            · rw [if_pos c34] at H
                              have c34b0 : (x7_2.toList == ([] : List UInt8)) = true := beq_iff_eq.mpr c34
                              have c34b1 : (x7_2.toList != ([] : List UInt8)) = false := bne_eq_false_iff_eq.mpr c34
                              have c34b2 : (!x7_2.toList.isEmpty) = false := by have h_ := bne_eq_false_iff_eq.1 c34b1; rw [h_]; rfl
                              clear c34
                              (first | rw [c34b0] | (simp only [i64_w, i32_w]; rw [c34b0]) | rw [c34b2] | rw [c34b1] | skip)
                              by_cases c35 : (x5_2.length : Int) > 0
                              · rw [if_pos c35] at H
                                have c35b0 : decide (0 < (x5_2.length : Int)) = true := decide_eq_true c35
                                have c35b1 : decide (0 < x5_2.length) = true := decide_eq_true (by omega)
                                clear c35
                                obtain ⟨ji36, hji36⟩ : ∃ j_ : Int, (wrap64 ((x5_2.length : Int) - 1)) = j_ := ⟨_, rfl⟩
                                replace H : (if 0 ≤ (ji36) then (if (ji36) < (x6_2.length : Int) then (if rdOf false x6_2 (ji36) = true then (some (([] : List ByteArray), ([] : List Bool), false)) else (spec_l22Form.j4 kj11 a0 x5_2 x6_2 x8_2 x9_2 x10_8)) else (none)) else (none)) = some (r1, r2, r3) := by first | (rw [hji36] at H; exact H) | (simp only [hji36] at H ⊢; exact H)
                                have hji36w : (IntKind.i64.wrap ((x5_2.length : Int) - 1)) = ji36 := (i64_w _).trans hji36
                                by_cases c37 : 0 ≤ (ji36)
                                · rw [if_pos c37] at H
                                  have c37b0 : decide (0 ≤ (ji36)) = true := decide_eq_true c37
                                  clear c37
                                  by_cases c38 : (ji36) < (x6_2.length : Int)
                                  · rw [if_pos c38] at H
                                    have c38b0 : decide ((ji36) < (x6_2.length : Int)) = true := decide_eq_true c38
                                    clear c38
                                    obtain ⟨bq39, hbq39⟩ : ∃ b_ : Bool, b_ = (rdOf false x6_2 (ji36)) := ⟨_, rfl⟩
                                    replace H : (if bq39 = true then (some (([] : List ByteArray), ([] : List Bool), false)) else (spec_l22Form.j4 kj11 a0 x5_2 x6_2 x8_2 x9_2 x10_8)) = some (r1, r2, r3) := by rw [← hbq39] at H; exact H
                                    have Nbq39 := Aside0.mk hbq39
                                    clear hbq39
                                    by_cases c40 : bq39 = true
                                    · subst c40
                                      have H1 : (some (([] : List ByteArray), ([] : List Bool), false)) = some (r1, r2, r3) := by rw [if_pos rfl] at H; exact H
                                      clear H
                                      have H := H1
                                      clear H1
                                      simp only [Option.some.injEq, Prod.mk.injEq] at H
                                      obtain ⟨rfl, rfl, rfl⟩ := H
                                      obtain ⟨Ao41, co41, eo41⟩ := Kd.R_slice HO_6.out
                                      subst eo41
                                      have p126 : 0 ≤ ((ji36) : Int) := of_decide_eq_true (by first | (with_reducible assumption) | assumption)
                                      have q126 : (ji36) < (x6_2.length : Int) := of_decide_eq_true (by first | (with_reducible assumption) | assumption)
                                      obtain ⟨ad126, e126, hx126_0⟩ := Kd.at_bool (Kd.R_reads' HO_6.out).2.2 (ji36) p126 q126
                                      (try rw [← Nbq39.out] at hx126_0)
                                      cases e126
                                      replace p126 := eq_true p126
                                      replace q126 := eq_true q126
                                      go_wp2
                                      go_ret3
                                      exact ⟨_, _, by first | rfl | (simp [bne]; done) | (simp [errW_none, errW_some] <;> rfl) | (simp only [← hji36]; first | rfl | (simp [errW_none, errW_some] <;> rfl)) | (simp [*, errW_none, errW_some] <;> rfl), by first | exact Kd.R_nil _ _ _ _ _ | exact Kd.N_nil _ _ _ _ _ | exact Kd.V_nil _ _ _ _ _ | exact Kd.Q_nil _ _ _ _ _ | exact Kd.S_nil _ _ _ _ _, by first | exact Kd.R_nil _ _ _ _ _ | exact Kd.N_nil _ _ _ _ _ | exact Kd.V_nil _ _ _ _ _ | exact Kd.Q_nil _ _ _ _ _ | exact Kd.S_nil _ _ _ _ _, by repeat (first | (with_reducible first | exact HB.out | apply below_alloc | apply pw_below_drewN | apply below_drew1) | exact HB.out)⟩
                                    · replace c40 := Bool.eq_false_iff.mpr c40
                                      subst c40
                                      have H1 : (spec_l22Form.j4 kj11 a0 x5_2 x6_2 x8_2 x9_2 x10_8) = some (r1, r2, r3) := by rw [if_neg (show ¬ (false = true) by decide)] at H; exact H
                                      clear H
                                      have H := H1
                                      clear H1
                                      have H' := Aside0.mk H
                                      clear H
                                      obtain ⟨Ao42, co42, eo42⟩ := Kd.R_slice HO_6.out
                                      subst eo42
                                      have p126 : 0 ≤ ((ji36) : Int) := of_decide_eq_true (by first | (with_reducible assumption) | assumption)
                                      have q126 : (ji36) < (x6_2.length : Int) := of_decide_eq_true (by first | (with_reducible assumption) | assumption)
                                      obtain ⟨ad126, e126, hx126_0⟩ := Kd.at_bool (Kd.R_reads' HO_6.out).2.2 (ji36) p126 q126
                                      (try rw [← Nbq39.out] at hx126_0)
                                      cases e126
                                      replace p126 := eq_true p126
                                      replace q126 := eq_true q126
                                      go_wp2
                                      go_meet
                                      case rel => exact ⟨_, (x5_2), (x6_2), H', ⟨by have := HJ1.out; have := HK2.out; have := HJ8.out; have := HJ11.out; first | omega | exact Nat.le_refl _⟩, ⟨by (with_reducible repeat (first | apply Kd.R_alloc | apply Kd.R_drewN | apply Kd.R_drew)); exact HO_5.out⟩, ⟨by (with_reducible repeat (first | apply Kd.R_alloc | apply Kd.R_drewN | apply Kd.R_drew)); exact HO_6.out⟩, ⟨by repeat (first | (with_reducible first | exact HB.out | apply below_alloc | apply pw_below_drewN | apply below_drew1) | exact HB.out)⟩⟩
                                  · rw [if_neg c38] at H
                                    exact absurd H (by simp)
                                · rw [if_neg c37] at H
                                  exact absurd H (by simp)
                              · rw [if_neg c35] at H
                                have c35b0 : decide (0 < (x5_2.length : Int)) = false := decide_eq_false c35
                                have c35b1 : decide (0 < x5_2.length) = false := decide_eq_false (by omega)
                                clear c35
                                have H' := Aside0.mk H
                                clear H
                                go_wp2
                                go_meet
                                case rel => exact ⟨_, (x5_2), (x6_2), H', ⟨by have := HJ1.out; have := HK2.out; have := HJ8.out; have := HJ11.out; first | omega | exact Nat.le_refl _⟩, ⟨by (with_reducible repeat (first | apply Kd.R_alloc | apply Kd.R_drewN | apply Kd.R_drew)); exact HO_5.out⟩, ⟨by (with_reducible repeat (first | apply Kd.R_alloc | apply Kd.R_drewN | apply Kd.R_drew)); exact HO_6.out⟩, ⟨by repeat (first | (with_reducible first | exact HB.out | apply below_alloc | apply pw_below_drewN | apply below_drew1) | exact HB.out)⟩⟩
                            · rw [if_neg c34] at H
                              have c34b0 : (x7_2.toList == ([] : List UInt8)) = false := beq_eq_false_iff_ne.mpr c34
                              have c34b1 : (x7_2.toList != ([] : List UInt8)) = true := bne_iff_ne.mpr c34
                              have c34b2 : (!x7_2.toList.isEmpty) = true := by cases h_ : x7_2.toList with | nil => (rw [h_] at c34b1; exact absurd c34b1 (by decide)) | cons _ _ => rfl
                              (first | rw [c34b0] | (simp only [i64_w, i32_w]; rw [c34b0]) | rw [c34b2] | rw [c34b1] | skip)
                              by_cases c43 : x5_2.length < 8796093022208
                              · rw [if_pos c43] at H
                                have LMc43 := Aside0.mk c43
                                clear c43
                                obtain ⟨y127, hy127⟩ : ∃ y_ : List ByteArray, y_ = (x5_2 ++ [x7_2]) := ⟨_, rfl⟩
                                replace H : (if x6_2.length < 140737488355328 then (spec_l22Form.j4 kj11 a0 y127 (x6_2 ++ [false]) x8_2 x9_2 x10_8) else (none)) = some (r1, r2, r3) := by first | (rw [hy127]; with_reducible exact H) | (have H2_ := (Option.bind_some _ _).symm.trans H; rw [hy127]; with_reducible exact H2_) | (have H2_ := (Option.bind_some _ _).symm.trans H; with_reducible exact H2_) | with_reducible exact H | (rw [hy127]; exact H) | exact H
                                have Ny127 := Aside0.mk hy127
                                clear hy127
                                by_cases c44 : x6_2.length < 140737488355328
                                · rw [if_pos c44] at H
                                  have LMc44 := Aside0.mk c44
                                  clear c44
                                  obtain ⟨y130, hy130⟩ : ∃ y_ : List Bool, y_ = (x6_2 ++ [false]) := ⟨_, rfl⟩
                                  replace H : (spec_l22Form.j4 kj11 a0 y127 y130 x8_2 x9_2 x10_8) = some (r1, r2, r3) := by first | (rw [hy130]; with_reducible exact H) | (have H2_ := (Option.bind_some _ _).symm.trans H; rw [hy130]; with_reducible exact H2_) | (have H2_ := (Option.bind_some _ _).symm.trans H; with_reducible exact H2_) | with_reducible exact H | (rw [hy130]; exact H) | exact H
                                  have Ny130 := Aside0.mk hy130
                                  clear hy130
                                  have H' := Aside0.mk H
                                  clear H
                                  go_wp2_with (first | ((with_reducible refine gate_builtin (b := .append) (xs := #[.tmp 73, .tmp 75]) rfl ?_); (try (refine gate_guard (by rfl) ?_; dsimp only)); at_builtin; refine Kd.R_append Kd.string (w0 := w) w.heap.size rfl (.tmp 73) (.tmp 75) 28 9 (.string ⟨#[]⟩) 16 rfl Try.underlying28 info9 rfl (by decide) (by omega) (.slice Ao33 x5_2.length co33) x5_2 x7_2 [.string x7_2] (fun _ => True) (fun _ => False) rfl rfl ?aP (fun _ hk => hk.elim) ?aF ?aO ?aB ?aS ?aL ?_; (case aP => exact rfl); (case aB => exact (by repeat (first | (with_reducible first | exact HB.out | apply below_alloc | apply pw_below_drewN | apply below_drew1) | exact HB.out))); (case aF => exact (fun _ _ => trivial)); (case aO => exact (by (with_reducible repeat (first | apply Kd.R_alloc | apply Kd.R_drewN | apply Kd.R_drew)); exact HO_5.out)); (case aS => exact (below_size (by repeat (first | (with_reducible first | exact HB.out | apply below_alloc | apply pw_below_drewN | apply below_drew1) | exact HB.out)))); (case aL => have := LMc43.out; omega); intro v128 w45 ho hb hg hat; rw [← Ny127.out] at ho; have n0_ := Aside0.mk (Kd.R_over' (by (with_reducible repeat (first | apply Kd.R_alloc | apply Kd.R_drewN | apply Kd.R_drew)); exact HO_6.out) (Kd.R_typed (by (with_reducible repeat (first | apply Kd.R_alloc | apply Kd.R_drewN | apply Kd.R_drew)); exact HO_5.out)) (by decide) hg); have n1_ := Aside0.mk (hb); have n2_ := Aside0.mk (ho); clear HO_6; clear HB; clear HO_5; have HO_6 := n0_; have HB := n1_; have HO129 := n2_; clear n0_ n1_ n2_; clear ho hb hg hat) | ((with_reducible refine gate_builtin (b := .append) (xs := #[.tmp 77, .tmp 78]) rfl ?_); (try (refine gate_guard (by rfl) ?_; dsimp only)); at_builtin; refine Kd.R_append Kd.bool (w0 := w) w.heap.size rfl (.tmp 77) (.tmp 78) 29 4 (.bool false) 1 rfl Try.underlying29 info4 rfl (by decide) (by omega) u6 x6_2 false [.bool false] (fun _ => True) (fun _ => False) rfl rfl ?aP (fun _ hk => hk.elim) ?aF ?aO ?aB ?aS ?aL ?_; (case aP => exact rfl); (case aB => exact (by repeat (first | (with_reducible first | exact HB.out | apply below_alloc | apply pw_below_drewN | apply below_drew1) | exact HB.out))); (case aF => exact (fun _ _ => trivial)); (case aO => exact (by (with_reducible repeat (first | apply Kd.R_alloc | apply Kd.R_drewN | apply Kd.R_drew)); exact HO_6.out)); (case aS => exact (below_size (by repeat (first | (with_reducible first | exact HB.out | apply below_alloc | apply pw_below_drewN | apply below_drew1) | exact HB.out)))); (case aL => have := LMc44.out; omega); intro v131 w46 ho hb hg hat; rw [← Ny130.out] at ho; have n0_ := Aside0.mk (Kd.R_over' (by (with_reducible repeat (first | apply Kd.R_alloc | apply Kd.R_drewN | apply Kd.R_drew)); exact HO129.out) (Kd.R_typed (by (with_reducible repeat (first | apply Kd.R_alloc | apply Kd.R_drewN | apply Kd.R_drew)); exact HO_6.out)) (by decide) hg); have n1_ := Aside0.mk (hb); have n2_ := Aside0.mk (ho); clear HO129; clear HB; clear HO_6; have HO129 := n0_; have HB := n1_; have HO132 := n2_; clear n0_ n1_ n2_; clear ho hb hg hat))
                                  go_meet
                                  case rel => exact ⟨_, (y127), (y130), H', ⟨by have := HJ1.out; have := HK2.out; have := HJ8.out; have := HJ11.out; first | omega | exact Nat.le_refl _⟩, ⟨by (with_reducible repeat (first | apply Kd.R_alloc | apply Kd.R_drewN | apply Kd.R_drew)); exact HO129.out⟩, ⟨by (with_reducible repeat (first | apply Kd.R_alloc | apply Kd.R_drewN | apply Kd.R_drew)); exact HO132.out⟩, ⟨by repeat (first | (with_reducible first | exact HB.out | apply below_alloc | apply pw_below_drewN | apply below_drew1) | exact HB.out)⟩⟩
                                · rw [if_neg c44] at H
                                  exact absurd H (by simp)
                              · rw [if_neg c43] at H
                                exact absurd H (by simp)
                          case rest =>
                            clear HC32
                            try clear c1
                            try clear p1
                            try clear q1
                            try clear hx1
                            try clear c2
                            try clear p2
                            try clear q2
                            try clear hx2
                            try clear c3
                            try clear c3b0
                            try clear c3b1
                            try clear q3
                            try clear c4
                            try clear c5
                            try clear c6
                            try clear c6b0
                            try clear p6
                            try clear c7
                            try clear c7b0
                            try clear p8
                            try clear q8
                            try clear hx8
                            try clear c9
                            try clear c10
                            try clear c10b0
                            try clear c10b1
                            try clear p12
                            try clear q12
                            try clear hx12
                            try clear c13
                            try clear c13b0
                            try clear c14
                            try clear c14b0
                            try clear p15
                            try clear q15
                            try clear hx15
                            try clear c16
                            try clear c16b0
                            try clear c16b1
                            try clear c17
                            try clear c17b0
                            try clear c18
                            try clear c18b0
                            try clear c19
                            try clear c19b0
                            try clear p20
                            try clear q20
                            try clear hx20
                            try clear c21
                            try clear c21b0
                            try clear c21b1
                            try clear c23
                            try clear c23b0
                            try clear c23b1
                            try clear c24
                            try clear c24b0
                            try clear c24b1
                            try clear c25
                            try clear c25b0
                            try clear c25b1
                            try clear c27
                            try clear c28
                            try clear c28b0
                            try clear c28b1
                            try clear c29
                            try clear c29b0
                            try clear c29b1
                            try clear c30
                            try clear c30b0
                            try clear c30b1
                            try clear c31
                            try clear c31b0
                            try clear c31b1
                            try clear c31b2
                            try clear c34
                            try clear c34b0
                            try clear c34b1
                            try clear c35
                            try clear c35b0
                            try clear c35b1
                            try clear c37
                            try clear c37b0
                            try clear c38
                            try clear c38b0
                            try clear q39
                            try clear c40
                            try clear c43
                            try clear c44
                            try clear hx126_0
                            try clear p1
                            try clear p126
                            try clear p15
                            try clear p2
                            try clear p20
                            try clear p6
                            try clear p8
                            try clear q1
                            try clear q126
                            try clear q15
                            try clear q2
                            try clear q20
                            try clear q8
                            obtain ⟨kq, x5_31, x6_31, HA, HJ31, HO_5, HO_6, HB⟩ := hcut
                            cases kq with
                            | zero => exact absurd HA.out (by simp [spec_l22Form.j4])
                            | succ kj31 =>
                              have H := HA.out
                              clear HA
                              simp only [spec_l22Form.j4] at H
                              have H' := Aside0.mk H
                              clear H
                              obtain ⟨Ao47, co47, eo47⟩ := Kd.R_slice HO_5.out
                              subst eo47
                              go_wp2
                              go_loopg [91] kj31 (fun kq v91 w' => ∃ (x91_6 : Int), v91 = .int .i64 x91_6 ∧ Aside0 (spec_l22Form.l1 kq a0 x5_31 x6_31 x8_2 x9_2 x10_8 x5_31 (x5_31.length : Int) x91_6 = some (r1, r2, r3)) ∧ Aside0 (kq ≤ kj31) ∧ Aside0 (Kd.R Kd.string 9 w' w.heap.size (fun _ => True) (.slice Ao47 x5_31.length co47) x5_31) ∧ Aside0 (Kd.R Kd.bool 4 w' w.heap.size (fun _ => True) u6 x6_31) ∧ Aside0 (Kd.R Kd.string 9 w' w.heap.size (fun _ => True) (.slice Ao47 x5_31.length co47) x5_31) ∧ Aside0 (Below w.heap.size w w'))
                              case atStart => exact ⟨(0), (by first | rfl | (simp; done) | (simp [*]; done)), H', ⟨Nat.le_refl _⟩, ⟨by (with_reducible repeat (first | apply Kd.R_alloc | apply Kd.R_drewN | apply Kd.R_drew)); exact HO_5.out⟩, ⟨by (with_reducible repeat (first | apply Kd.R_alloc | apply Kd.R_drewN | apply Kd.R_drew)); exact HO_6.out⟩, ⟨by (with_reducible repeat (first | apply Kd.R_alloc | apply Kd.R_drewN | apply Kd.R_drew)); exact HO_5.out⟩, ⟨by repeat (first | (with_reducible first | exact HB.out | apply below_alloc | apply pw_below_drewN | apply below_drew1) | exact HB.out)⟩⟩
                              case round =>
                                clear H'
                                try clear c1
                                try clear p1
                                try clear q1
                                try clear hx1
                                try clear c2
                                try clear p2
                                try clear q2
                                try clear hx2
                                try clear c3
                                try clear c3b0
                                try clear c3b1
                                try clear q3
                                try clear c4
                                try clear c5
                                try clear c6
                                try clear c6b0
                                try clear p6
                                try clear c7
                                try clear c7b0
                                try clear p8
                                try clear q8
                                try clear hx8
                                try clear c9
                                try clear c10
                                try clear c10b0
                                try clear c10b1
                                try clear p12
                                try clear q12
                                try clear hx12
                                try clear c13
                                try clear c13b0
                                try clear c14
                                try clear c14b0
                                try clear p15
                                try clear q15
                                try clear hx15
                                try clear c16
                                try clear c16b0
                                try clear c16b1
                                try clear c17
                                try clear c17b0
                                try clear c18
                                try clear c18b0
                                try clear c19
                                try clear c19b0
                                try clear p20
                                try clear q20
                                try clear hx20
                                try clear c21
                                try clear c21b0
                                try clear c21b1
                                try clear c23
                                try clear c23b0
                                try clear c23b1
                                try clear c24
                                try clear c24b0
                                try clear c24b1
                                try clear c25
                                try clear c25b0
                                try clear c25b1
                                try clear c27
                                try clear c28
                                try clear c28b0
                                try clear c28b1
                                try clear c29
                                try clear c29b0
                                try clear c29b1
                                try clear c30
                                try clear c30b0
                                try clear c30b1
                                try clear c31
                                try clear c31b0
                                try clear c31b1
                                try clear c31b2
                                try clear c34
                                try clear c34b0
                                try clear c34b1
                                try clear c35
                                try clear c35b0
                                try clear c35b1
                                try clear c37
                                try clear c37b0
                                try clear c38
                                try clear c38b0
                                try clear q39
                                try clear c40
                                try clear c43
                                try clear c44
                                try clear hx126_0
                                try clear p1
                                try clear p12
                                try clear p126
                                try clear p15
                                try clear p2
                                try clear p20
                                try clear p6
                                try clear p8
                                try clear q1
                                try clear q12
                                try clear q126
                                try clear q15
                                try clear q2
                                try clear q20
                                try clear q3
                                try clear q39
                                try clear q8
                                obtain ⟨x91_6, rfl, HA, HK6, HO_5, HO_6, HO_89, HB⟩ := hrel
                                cases gk with
                                | zero => exact absurd HA.out (by simp [spec_l22Form.l1])
                                | succ k6 =>
                                  have H := HA.out
                                  clear HA
                                  simp only [spec_l22Form.l1] at H
                                  by_cases c48 : x91_6 < (x5_31.length : Int)
                                  · rw [if_pos c48] at H
                                    have c48b0 : decide (x91_6 < (x5_31.length : Int)) = true := decide_eq_true c48
                                    clear c48
                                    by_cases c49 : 0 ≤ x91_6
                                    · rw [if_pos c49] at H
                                      have c49b0 : decide (0 ≤ x91_6) = true := decide_eq_true c49
                                      clear c49
                                      by_cases c50 : x91_6 < (x5_31.length : Int)
                                      · rw [if_pos c50] at H
                                        have c50b0 : decide (x91_6 < (x5_31.length : Int)) = true := decide_eq_true c50
                                        clear c50
                                        by_cases c51 : x91_6 < (x6_31.length : Int)
                                        · rw [if_pos c51] at H
                                          have c51b0 : decide (x91_6 < (x6_31.length : Int)) = true := decide_eq_true c51
                                          clear c51
                                          obtain ⟨bq52, hbq52⟩ : ∃ b_ : Bool, b_ = (rdOf false x6_31 x91_6) := ⟨_, rfl⟩
                                          replace H : (if bq52 = true then (if 0 ≤ (wrap64 (x9_2 + 1)) then (if (wrap64 (x9_2 + 1)) ≤ x10_8 then (if x10_8 ≤ (a0.size : Int) then (if (rdOf ByteArray.empty x5_31 x91_6).toList = (a0.extract ((wrap64 (x9_2 + 1)) : Int).toNat (x10_8 : Int).toNat).toList then (some (([] : List ByteArray), ([] : List Bool), false)) else (spec_l22Form.l1 k6 a0 x5_31 x6_31 x8_2 x9_2 x10_8 x5_31 (x5_31.length : Int) (wrap64 (x91_6 + 1)))) else (none)) else (none)) else (none)) else (spec_l22Form.l1 k6 a0 x5_31 x6_31 x8_2 x9_2 x10_8 x5_31 (x5_31.length : Int) (wrap64 (x91_6 + 1)))) = some (r1, r2, r3) := by rw [← hbq52] at H; exact H
                                          have Nbq52 := Aside0.mk hbq52
                                          clear hbq52
                                          by_cases c53 : bq52 = true
                                          · subst c53
                                            have H1 : (if 0 ≤ (wrap64 (x9_2 + 1)) then (if (wrap64 (x9_2 + 1)) ≤ x10_8 then (if x10_8 ≤ (a0.size : Int) then (if (rdOf ByteArray.empty x5_31 x91_6).toList = (a0.extract ((wrap64 (x9_2 + 1)) : Int).toNat (x10_8 : Int).toNat).toList then (some (([] : List ByteArray), ([] : List Bool), false)) else (spec_l22Form.l1 k6 a0 x5_31 x6_31 x8_2 x9_2 x10_8 x5_31 (x5_31.length : Int) (wrap64 (x91_6 + 1)))) else (none)) else (none)) else (none)) = some (r1, r2, r3) := by rw [if_pos rfl] at H; exact H
                                            clear H
                                            have H := H1
                                            clear H1
                                            obtain ⟨ji54, hji54⟩ : ∃ j_ : Int, (wrap64 (x9_2 + 1)) = j_ := ⟨_, rfl⟩
                                            replace H : (if 0 ≤ (ji54) then (if (ji54) ≤ x10_8 then (if x10_8 ≤ (a0.size : Int) then (if (rdOf ByteArray.empty x5_31 x91_6).toList = (a0.extract ((ji54) : Int).toNat (x10_8 : Int).toNat).toList then (some (([] : List ByteArray), ([] : List Bool), false)) else (spec_l22Form.l1 k6 a0 x5_31 x6_31 x8_2 x9_2 x10_8 x5_31 (x5_31.length : Int) (wrap64 (x91_6 + 1)))) else (none)) else (none)) else (none)) = some (r1, r2, r3) := by first | (rw [hji54] at H; exact H) | (simp only [hji54] at H ⊢; exact H)
                                            have hji54w : (IntKind.i64.wrap (x9_2 + 1)) = ji54 := (i64_w _).trans hji54
                                            by_cases c55 : 0 ≤ (ji54)
                                            · rw [if_pos c55] at H
                                              have c55b0 := eq_true c55
                                              have c55b1 : decide (0 ≤ (ji54)) = true := decide_eq_true c55
                                              clear c55
                                              by_cases c56 : (ji54) ≤ x10_8
                                              · rw [if_pos c56] at H
                                                have c56b0 := eq_true c56
                                                have c56b1 : decide ((ji54) ≤ x10_8) = true := decide_eq_true c56
                                                clear c56
                                                by_cases c57 : x10_8 ≤ (a0.size : Int)
                                                · rw [if_pos c57] at H
                                                  have c57b0 := eq_true c57
                                                  have c57b1 : decide (x10_8 ≤ (a0.size : Int)) = true := decide_eq_true c57
                                                  clear c57
                                                  by_cases c58 : (rdOf ByteArray.empty x5_31 x91_6).toList = (a0.extract ((ji54) : Int).toNat (x10_8 : Int).toNat).toList
                                                  · rw [if_pos c58] at H
                                                    have c58b0 : ((rdOf ByteArray.empty x5_31 x91_6).toList == (a0.extract ((ji54) : Int).toNat (x10_8 : Int).toNat).toList) = true := beq_iff_eq.mpr c58
                                                    have c58b1 : ((rdOf ByteArray.empty x5_31 x91_6).toList != (a0.extract ((ji54) : Int).toNat (x10_8 : Int).toNat).toList) = false := bne_eq_false_iff_eq.mpr c58
                                                    clear c58
                                                    simp only [Option.some.injEq, Prod.mk.injEq] at H
                                                    obtain ⟨rfl, rfl, rfl⟩ := H
                                                    have p133 : 0 ≤ (x91_6 : Int) := of_decide_eq_true (by first | (with_reducible assumption) | assumption)
                                                    have q133 : x91_6 < (x5_31.length : Int) := of_decide_eq_true (by first | (with_reducible assumption) | assumption)
                                                    obtain ⟨ad133, e133, hx133_0⟩ := Kd.at_string (Kd.R_reads' HO_89.out).2.2 x91_6 p133 q133
                                                    cases e133
                                                    replace p133 := eq_true p133
                                                    replace q133 := eq_true q133
                                                    obtain ⟨Ao59, co59, eo59⟩ := Kd.R_slice HO_6.out
                                                    subst eo59
                                                    have p134 : 0 ≤ (x91_6 : Int) := of_decide_eq_true (by first | (with_reducible assumption) | assumption)
                                                    have q134 : x91_6 < (x6_31.length : Int) := of_decide_eq_true (by first | (with_reducible assumption) | assumption)
                                                    obtain ⟨ad134, e134, hx134_0⟩ := Kd.at_bool (Kd.R_reads' HO_6.out).2.2 x91_6 p134 q134
                                                    (try rw [← Nbq52.out] at hx134_0)
                                                    cases e134
                                                    replace p134 := eq_true p134
                                                    replace q134 := eq_true q134
                                                    go_wp2
                                                    go_ret3
                                                    exact ⟨_, _, by first | rfl | (simp [bne]; done) | (simp [errW_none, errW_some] <;> rfl) | (simp only [← hji54]; first | rfl | (simp [errW_none, errW_some] <;> rfl)) | (simp [*, errW_none, errW_some] <;> rfl), by first | exact Kd.R_nil _ _ _ _ _ | exact Kd.N_nil _ _ _ _ _ | exact Kd.V_nil _ _ _ _ _ | exact Kd.Q_nil _ _ _ _ _ | exact Kd.S_nil _ _ _ _ _, by first | exact Kd.R_nil _ _ _ _ _ | exact Kd.N_nil _ _ _ _ _ | exact Kd.V_nil _ _ _ _ _ | exact Kd.Q_nil _ _ _ _ _ | exact Kd.S_nil _ _ _ _ _, by repeat (first | (with_reducible first | exact HB.out | apply below_alloc | apply pw_below_drewN | apply below_drew1) | exact HB.out)⟩
                                                  · rw [if_neg c58] at H
                                                    have c58b0 : ((rdOf ByteArray.empty x5_31 x91_6).toList == (a0.extract ((ji54) : Int).toNat (x10_8 : Int).toNat).toList) = false := beq_eq_false_iff_ne.mpr c58
                                                    have c58b1 : ((rdOf ByteArray.empty x5_31 x91_6).toList != (a0.extract ((ji54) : Int).toNat (x10_8 : Int).toNat).toList) = true := bne_iff_ne.mpr c58
                                                    have H' := Aside0.mk H
                                                    clear H
                                                    have p133 : 0 ≤ (x91_6 : Int) := of_decide_eq_true (by first | (with_reducible assumption) | assumption)
                                                    have q133 : x91_6 < (x5_31.length : Int) := of_decide_eq_true (by first | (with_reducible assumption) | assumption)
                                                    obtain ⟨ad133, e133, hx133_0⟩ := Kd.at_string (Kd.R_reads' HO_89.out).2.2 x91_6 p133 q133
                                                    cases e133
                                                    replace p133 := eq_true p133
                                                    replace q133 := eq_true q133
                                                    obtain ⟨Ao60, co60, eo60⟩ := Kd.R_slice HO_6.out
                                                    subst eo60
                                                    have p134 : 0 ≤ (x91_6 : Int) := of_decide_eq_true (by first | (with_reducible assumption) | assumption)
                                                    have q134 : x91_6 < (x6_31.length : Int) := of_decide_eq_true (by first | (with_reducible assumption) | assumption)
                                                    obtain ⟨ad134, e134, hx134_0⟩ := Kd.at_bool (Kd.R_reads' HO_6.out).2.2 x91_6 p134 q134
                                                    (try rw [← Nbq52.out] at hx134_0)
                                                    cases e134
                                                    replace p134 := eq_true p134
                                                    replace q134 := eq_true q134
                                                    go_wp2
                                                    go_roundg k6
                                                    case measure => have := HJ1.out; have := HK2.out; have := HJ8.out; have := HJ11.out; have := HJ31.out; have := HK6.out; omega
                                                    case rel => exact ⟨(wrap64 (x91_6 + 1)), (by first | rfl | (simp; done) | (simp [*]; done)), H', ⟨by have := HJ1.out; have := HK2.out; have := HJ8.out; have := HJ11.out; have := HJ31.out; have := HK6.out; omega⟩, ⟨by (with_reducible repeat (first | apply Kd.R_alloc | apply Kd.R_drewN | apply Kd.R_drew)); exact HO_5.out⟩, ⟨by (with_reducible repeat (first | apply Kd.R_alloc | apply Kd.R_drewN | apply Kd.R_drew)); exact HO_6.out⟩, ⟨by (with_reducible repeat (first | apply Kd.R_alloc | apply Kd.R_drewN | apply Kd.R_drew)); exact HO_89.out⟩, ⟨by repeat (first | (with_reducible first | exact HB.out | apply below_alloc | apply pw_below_drewN | apply below_drew1) | exact HB.out)⟩⟩
                                                · rw [if_neg c57] at H
                                                  exact absurd H (by simp)
                                              · rw [if_neg c56] at H
                                                exact absurd H (by simp)
                                            · rw [if_neg c55] at H
                                              exact absurd H (by simp)
                                          · replace c53 := Bool.eq_false_iff.mpr c53
                                            subst c53
                                            have H1 : (spec_l22Form.l1 k6 a0 x5_31 x6_31 x8_2 x9_2 x10_8 x5_31 (x5_31.length : Int) (wrap64 (x91_6 + 1))) = some (r1, r2, r3) := by rw [if_neg (show ¬ (false = true) by decide)] at H; exact H
                                            clear H
                                            have H := H1
                                            clear H1
                                            have H' := Aside0.mk H
                                            clear H
                                            have p133 : 0 ≤ (x91_6 : Int) := of_decide_eq_true (by first | (with_reducible assumption) | assumption)
                                            have q133 : x91_6 < (x5_31.length : Int) := of_decide_eq_true (by first | (with_reducible assumption) | assumption)
                                            obtain ⟨ad133, e133, hx133_0⟩ := Kd.at_string (Kd.R_reads' HO_89.out).2.2 x91_6 p133 q133
                                            cases e133
                                            replace p133 := eq_true p133
                                            replace q133 := eq_true q133
                                            obtain ⟨Ao61, co61, eo61⟩ := Kd.R_slice HO_6.out
                                            subst eo61
                                            have p134 : 0 ≤ (x91_6 : Int) := of_decide_eq_true (by first | (with_reducible assumption) | assumption)
                                            have q134 : x91_6 < (x6_31.length : Int) := of_decide_eq_true (by first | (with_reducible assumption) | assumption)
                                            obtain ⟨ad134, e134, hx134_0⟩ := Kd.at_bool (Kd.R_reads' HO_6.out).2.2 x91_6 p134 q134
                                            (try rw [← Nbq52.out] at hx134_0)
                                            cases e134
                                            replace p134 := eq_true p134
                                            replace q134 := eq_true q134
                                            go_wp2
                                            go_roundg k6
                                            case measure => have := HJ1.out; have := HK2.out; have := HJ8.out; have := HJ11.out; have := HJ31.out; have := HK6.out; omega
                                            case rel => exact ⟨(wrap64 (x91_6 + 1)), (by first | rfl | (simp; done) | (simp [*]; done)), H', ⟨by have := HJ1.out; have := HK2.out; have := HJ8.out; have := HJ11.out; have := HJ31.out; have := HK6.out; omega⟩, ⟨by (with_reducible repeat (first | apply Kd.R_alloc | apply Kd.R_drewN | apply Kd.R_drew)); exact HO_5.out⟩, ⟨by (with_reducible repeat (first | apply Kd.R_alloc | apply Kd.R_drewN | apply Kd.R_drew)); exact HO_6.out⟩, ⟨by (with_reducible repeat (first | apply Kd.R_alloc | apply Kd.R_drewN | apply Kd.R_drew)); exact HO_89.out⟩, ⟨by repeat (first | (with_reducible first | exact HB.out | apply below_alloc | apply pw_below_drewN | apply below_drew1) | exact HB.out)⟩⟩
                                        · rw [if_neg c51] at H
                                          exact absurd H (by simp)
                                      · rw [if_neg c50] at H
                                        exact absurd H (by simp)
                                    · rw [if_neg c49] at H
                                      exact absurd H (by simp)
                                  · rw [if_neg c48] at H
                                    have c48b0 : decide (x91_6 < (x5_31.length : Int)) = false := decide_eq_false c48
                                    clear c48
                                    obtain ⟨ji62, hji62⟩ : ∃ j_ : Int, (wrap64 (x9_2 + 1)) = j_ := ⟨_, rfl⟩
                                    replace H : (if 0 ≤ (ji62) then (if (ji62) ≤ x10_8 then (if x10_8 ≤ (a0.size : Int) then (if x5_31.length < 8796093022208 then (if x6_31.length < 140737488355328 then (spec_l22Form.l0 k6 a0 (x5_31 ++ [a0.extract ((ji62) : Int).toNat (x10_8 : Int).toNat]) (x6_31 ++ [true]) (⟨#[]⟩ : ByteArray) (wrap64 (x8_2 + 1)) (wrap64 (x10_8 + 1))) else (none)) else (none)) else (none)) else (none)) else (none)) = some (r1, r2, r3) := by first | (rw [hji62] at H; exact H) | (simp only [hji62] at H ⊢; exact H)
                                    have hji62w : (IntKind.i64.wrap (x9_2 + 1)) = ji62 := (i64_w _).trans hji62
                                    by_cases c63 : 0 ≤ (ji62)
                                    · rw [if_pos c63] at H
                                      have c63b0 := eq_true c63
                                      have c63b1 : decide (0 ≤ (ji62)) = true := decide_eq_true c63
                                      clear c63
                                      by_cases c64 : (ji62) ≤ x10_8
                                      · rw [if_pos c64] at H
                                        have c64b0 := eq_true c64
                                        have c64b1 : decide ((ji62) ≤ x10_8) = true := decide_eq_true c64
                                        clear c64
                                        by_cases c65 : x10_8 ≤ (a0.size : Int)
                                        · rw [if_pos c65] at H
                                          have c65b0 := eq_true c65
                                          have c65b1 : decide (x10_8 ≤ (a0.size : Int)) = true := decide_eq_true c65
                                          clear c65
                                          by_cases c66 : x5_31.length < 8796093022208
                                          · rw [if_pos c66] at H
                                            have LMc66 := Aside0.mk c66
                                            clear c66
                                            obtain ⟨y135, hy135⟩ : ∃ y_ : List ByteArray, y_ = (x5_31 ++ [a0.extract ((ji62) : Int).toNat (x10_8 : Int).toNat]) := ⟨_, rfl⟩
                                            replace H : (if x6_31.length < 140737488355328 then (spec_l22Form.l0 k6 a0 y135 (x6_31 ++ [true]) (⟨#[]⟩ : ByteArray) (wrap64 (x8_2 + 1)) (wrap64 (x10_8 + 1))) else (none)) = some (r1, r2, r3) := by first | (rw [hy135]; with_reducible exact H) | (have H2_ := (Option.bind_some _ _).symm.trans H; rw [hy135]; with_reducible exact H2_) | (have H2_ := (Option.bind_some _ _).symm.trans H; with_reducible exact H2_) | with_reducible exact H | (rw [hy135]; exact H) | exact H
                                            have Ny135 := Aside0.mk hy135
                                            clear hy135
                                            by_cases c67 : x6_31.length < 140737488355328
                                            · rw [if_pos c67] at H
                                              have LMc67 := Aside0.mk c67
                                              clear c67
                                              obtain ⟨y138, hy138⟩ : ∃ y_ : List Bool, y_ = (x6_31 ++ [true]) := ⟨_, rfl⟩
                                              replace H : (spec_l22Form.l0 k6 a0 y135 y138 (⟨#[]⟩ : ByteArray) (wrap64 (x8_2 + 1)) (wrap64 (x10_8 + 1))) = some (r1, r2, r3) := by first | (rw [hy138]; with_reducible exact H) | (have H2_ := (Option.bind_some _ _).symm.trans H; rw [hy138]; with_reducible exact H2_) | (have H2_ := (Option.bind_some _ _).symm.trans H; with_reducible exact H2_) | with_reducible exact H | (rw [hy138]; exact H) | exact H
                                              have Ny138 := Aside0.mk hy138
                                              clear hy138
                                              have H' := Aside0.mk H
                                              clear H
                                              go_wp2_with (first | ((with_reducible refine gate_builtin (b := .append) (xs := #[.tmp 110, .tmp 116]) rfl ?_); (try (refine gate_guard (by rfl) ?_; dsimp only)); at_builtin; refine Kd.R_append Kd.string (w0 := w) w.heap.size rfl (.tmp 110) (.tmp 116) 28 9 (.string ⟨#[]⟩) 16 rfl Try.underlying28 info9 rfl (by decide) (by omega) (.slice Ao47 x5_31.length co47) x5_31 (a0.extract ((ji62) : Int).toNat (x10_8 : Int).toNat) [.string (a0.extract ((ji62) : Int).toNat (x10_8 : Int).toNat)] (fun _ => True) (fun _ => False) rfl rfl ?aP (fun _ hk => hk.elim) ?aF ?aO ?aB ?aS ?aL ?_; (case aP => exact rfl); (case aB => exact (by repeat (first | (with_reducible first | exact HB.out | apply below_alloc | apply pw_below_drewN | apply below_drew1) | exact HB.out))); (case aF => exact (fun _ _ => trivial)); (case aO => exact (by (with_reducible repeat (first | apply Kd.R_alloc | apply Kd.R_drewN | apply Kd.R_drew)); exact HO_5.out)); (case aS => exact (below_size (by repeat (first | (with_reducible first | exact HB.out | apply below_alloc | apply pw_below_drewN | apply below_drew1) | exact HB.out)))); (case aL => have := LMc66.out; omega); intro v136 w68 ho hb hg hat; rw [← Ny135.out] at ho; have n0_ := Aside0.mk (Kd.R_over' (by (with_reducible repeat (first | apply Kd.R_alloc | apply Kd.R_drewN | apply Kd.R_drew)); exact HO_6.out) (Kd.R_typed (by (with_reducible repeat (first | apply Kd.R_alloc | apply Kd.R_drewN | apply Kd.R_drew)); exact HO_5.out)) (by decide) hg); have n1_ := Aside0.mk (hb); have n2_ := Aside0.mk (ho); clear HO_6; clear HB; clear HO_5; clear HO_89; have HO_6 := n0_; have HB := n1_; have HO137 := n2_; clear n0_ n1_ n2_; clear ho hb hg hat) | ((with_reducible refine gate_builtin (b := .append) (xs := #[.tmp 118, .tmp 119]) rfl ?_); (try (refine gate_guard (by rfl) ?_; dsimp only)); at_builtin; refine Kd.R_append Kd.bool (w0 := w) w.heap.size rfl (.tmp 118) (.tmp 119) 29 4 (.bool false) 1 rfl Try.underlying29 info4 rfl (by decide) (by omega) u6 x6_31 true [.bool true] (fun _ => True) (fun _ => False) rfl rfl ?aP (fun _ hk => hk.elim) ?aF ?aO ?aB ?aS ?aL ?_; (case aP => exact rfl); (case aB => exact (by repeat (first | (with_reducible first | exact HB.out | apply below_alloc | apply pw_below_drewN | apply below_drew1) | exact HB.out))); (case aF => exact (fun _ _ => trivial)); (case aO => exact (by (with_reducible repeat (first | apply Kd.R_alloc | apply Kd.R_drewN | apply Kd.R_drew)); exact HO_6.out)); (case aS => exact (below_size (by repeat (first | (with_reducible first | exact HB.out | apply below_alloc | apply pw_below_drewN | apply below_drew1) | exact HB.out)))); (case aL => have := LMc67.out; omega); intro v139 w69 ho hb hg hat; rw [← Ny138.out] at ho; have n0_ := Aside0.mk (Kd.R_over' (by (with_reducible repeat (first | apply Kd.R_alloc | apply Kd.R_drewN | apply Kd.R_drew)); exact HO137.out) (Kd.R_typed (by (with_reducible repeat (first | apply Kd.R_alloc | apply Kd.R_drewN | apply Kd.R_drew)); exact HO_6.out)) (by decide) hg); have n1_ := Aside0.mk (hb); have n2_ := Aside0.mk (ho); clear HO137; clear HB; clear HO_6; have HO137 := n0_; have HB := n1_; have HO140 := n2_; clear n0_ n1_ n2_; clear ho hb hg hat))
                                              go_roundg k6
                                              case measure => have := HJ1.out; have := HK2.out; have := HJ8.out; have := HJ11.out; have := HJ31.out; have := HK6.out; omega
                                              case rel => exact ⟨(y135), (y138), ((⟨#[]⟩ : ByteArray)), (wrap64 (x8_2 + 1)), (wrap64 (x10_8 + 1)), (by first | rfl | (simp; done) | (simp [*]; done)), (by first | rfl | (simp; done) | (simp [*]; done)), (by first | rfl | (simp; done) | (simp [*]; done)), H', ⟨by have := HJ1.out; have := HK2.out; have := HJ8.out; have := HJ11.out; have := HJ31.out; have := HK6.out; omega⟩, ⟨by (with_reducible repeat (first | apply Kd.R_alloc | apply Kd.R_drewN | apply Kd.R_drew)); exact HO137.out⟩, ⟨by (with_reducible repeat (first | apply Kd.R_alloc | apply Kd.R_drewN | apply Kd.R_drew)); exact HO140.out⟩, ⟨by repeat (first | (with_reducible first | exact HB.out | apply below_alloc | apply pw_below_drewN | apply below_drew1) | exact HB.out)⟩⟩
                                            · rw [if_neg c67] at H
                                              exact absurd H (by simp)
                                          · rw [if_neg c66] at H
                                            exact absurd H (by simp)
                                        · rw [if_neg c65] at H
                                          exact absurd H (by simp)
                                      · rw [if_neg c64] at H
                                        exact absurd H (by simp)
                                    · rw [if_neg c63] at H
                                      exact absurd H (by simp)
              · rw [if_neg c7] at H
                exact absurd H (by simp)
            · rw [if_neg c6] at H
              have c6b0 : decide (x9_2 < (a0.size : Int)) = false := decide_eq_false c6
              clear c6
              by_cases c70 : x7_2.toList = ([] : List UInt8)
              · rw [if_pos c70] at H
                have c70b0 : (x7_2.toList == ([] : List UInt8)) = true := beq_iff_eq.mpr c70
                have c70b1 : (x7_2.toList != ([] : List UInt8)) = false := bne_eq_false_iff_eq.mpr c70
                have c70b2 : (!x7_2.toList.isEmpty) = false := by have h_ := bne_eq_false_iff_eq.1 c70b1; rw [h_]; rfl
                clear c70
                simp only [Option.some.injEq, Prod.mk.injEq] at H
                obtain ⟨rfl, rfl, rfl⟩ := H
                go_wp2
                go_ret3
                exact ⟨_, _, by first | rfl | (simp [bne]; done) | (simp [errW_none, errW_some] <;> rfl) | (simp [*, errW_none, errW_some] <;> rfl), by (with_reducible repeat (first | apply Kd.R_alloc | apply Kd.R_drewN | apply Kd.R_drew)); exact HO_5.out, by (with_reducible repeat (first | apply Kd.R_alloc | apply Kd.R_drewN | apply Kd.R_drew)); exact HO_6.out, by repeat (first | (with_reducible first | exact HB.out | apply below_alloc | apply pw_below_drewN | apply below_drew1) | exact HB.out)⟩
              · rw [if_neg c70] at H
                have c70b0 : (x7_2.toList == ([] : List UInt8)) = false := beq_eq_false_iff_ne.mpr c70
                have c70b1 : (x7_2.toList != ([] : List UInt8)) = true := bne_iff_ne.mpr c70
                have c70b2 : (!x7_2.toList.isEmpty) = true := by cases h_ : x7_2.toList with | nil => (rw [h_] at c70b1; exact absurd c70b1 (by decide)) | cons _ _ => rfl
                by_cases c71 : x5_2.length < 8796093022208
                · rw [if_pos c71] at H
                  have LMc71 := Aside0.mk c71
                  clear c71
                  obtain ⟨y118, hy118⟩ : ∃ y_ : List ByteArray, y_ = (x5_2 ++ [x7_2]) := ⟨_, rfl⟩
                  replace H : (if x6_2.length < 140737488355328 then (some (y118, (x6_2 ++ [false]), decide (x8_2 > 0))) else (none)) = some (r1, r2, r3) := by first | (rw [hy118]; with_reducible exact H) | (have H2_ := (Option.bind_some _ _).symm.trans H; rw [hy118]; with_reducible exact H2_) | (have H2_ := (Option.bind_some _ _).symm.trans H; with_reducible exact H2_) | with_reducible exact H | (rw [hy118]; exact H) | exact H
                  have Ny118 := Aside0.mk hy118
                  clear hy118
                  by_cases c72 : x6_2.length < 140737488355328
                  · rw [if_pos c72] at H
                    have LMc72 := Aside0.mk c72
                    clear c72
                    obtain ⟨y121, hy121⟩ : ∃ y_ : List Bool, y_ = (x6_2 ++ [false]) := ⟨_, rfl⟩
                    replace H : (some (y118, y121, decide (x8_2 > 0))) = some (r1, r2, r3) := by first | (rw [hy121]; with_reducible exact H) | (have H2_ := (Option.bind_some _ _).symm.trans H; rw [hy121]; with_reducible exact H2_) | (have H2_ := (Option.bind_some _ _).symm.trans H; with_reducible exact H2_) | with_reducible exact H | (rw [hy121]; exact H) | exact H
                    have Ny121 := Aside0.mk hy121
                    clear hy121
                    simp only [Option.some.injEq, Prod.mk.injEq] at H
                    obtain ⟨rfl, rfl, rfl⟩ := H
                    go_wp2_with (first | ((with_reducible refine gate_builtin (b := .append) (xs := #[.tmp 126, .tmp 128]) rfl ?_); (try (refine gate_guard (by rfl) ?_; dsimp only)); at_builtin; refine Kd.R_append Kd.string (w0 := w) w.heap.size rfl (.tmp 126) (.tmp 128) 28 9 (.string ⟨#[]⟩) 16 rfl Try.underlying28 info9 rfl (by decide) (by omega) u5 x5_2 x7_2 [.string x7_2] (fun _ => True) (fun _ => False) rfl rfl ?aP (fun _ hk => hk.elim) ?aF ?aO ?aB ?aS ?aL ?_; (case aP => exact rfl); (case aB => exact (by repeat (first | (with_reducible first | exact HB.out | apply below_alloc | apply pw_below_drewN | apply below_drew1) | exact HB.out))); (case aF => exact (fun _ _ => trivial)); (case aO => exact (by (with_reducible repeat (first | apply Kd.R_alloc | apply Kd.R_drewN | apply Kd.R_drew)); exact HO_5.out)); (case aS => exact (below_size (by repeat (first | (with_reducible first | exact HB.out | apply below_alloc | apply pw_below_drewN | apply below_drew1) | exact HB.out)))); (case aL => have := LMc71.out; omega); intro v119 w73 ho hb hg hat; rw [← Ny118.out] at ho; have n0_ := Aside0.mk (Kd.R_over' (by (with_reducible repeat (first | apply Kd.R_alloc | apply Kd.R_drewN | apply Kd.R_drew)); exact HO_6.out) (Kd.R_typed (by (with_reducible repeat (first | apply Kd.R_alloc | apply Kd.R_drewN | apply Kd.R_drew)); exact HO_5.out)) (by decide) hg); have n1_ := Aside0.mk (hb); have n2_ := Aside0.mk (ho); clear HO_6; clear HB; clear HO_5; have HO_6 := n0_; have HB := n1_; have HO120 := n2_; clear n0_ n1_ n2_; clear ho hb hg hat) | ((with_reducible refine gate_builtin (b := .append) (xs := #[.tmp 130, .tmp 131]) rfl ?_); (try (refine gate_guard (by rfl) ?_; dsimp only)); at_builtin; refine Kd.R_append Kd.bool (w0 := w) w.heap.size rfl (.tmp 130) (.tmp 131) 29 4 (.bool false) 1 rfl Try.underlying29 info4 rfl (by decide) (by omega) u6 x6_2 false [.bool false] (fun _ => True) (fun _ => False) rfl rfl ?aP (fun _ hk => hk.elim) ?aF ?aO ?aB ?aS ?aL ?_; (case aP => exact rfl); (case aB => exact (by repeat (first | (with_reducible first | exact HB.out | apply below_alloc | apply pw_below_drewN | apply below_drew1) | exact HB.out))); (case aF => exact (fun _ _ => trivial)); (case aO => exact (by (with_reducible repeat (first | apply Kd.R_alloc | apply Kd.R_drewN | apply Kd.R_drew)); exact HO_6.out)); (case aS => exact (below_size (by repeat (first | (with_reducible first | exact HB.out | apply below_alloc | apply pw_below_drewN | apply below_drew1) | exact HB.out)))); (case aL => have := LMc72.out; omega); intro v122 w74 ho hb hg hat; rw [← Ny121.out] at ho; have n0_ := Aside0.mk (Kd.R_over' (by (with_reducible repeat (first | apply Kd.R_alloc | apply Kd.R_drewN | apply Kd.R_drew)); exact HO120.out) (Kd.R_typed (by (with_reducible repeat (first | apply Kd.R_alloc | apply Kd.R_drewN | apply Kd.R_drew)); exact HO_6.out)) (by decide) hg); have n1_ := Aside0.mk (hb); have n2_ := Aside0.mk (ho); clear HO120; clear HB; clear HO_6; have HO120 := n0_; have HB := n1_; have HO123 := n2_; clear n0_ n1_ n2_; clear ho hb hg hat))
                    go_ret3
                    exact ⟨_, _, by first | rfl | (simp [bne]; done) | (simp [errW_none, errW_some] <;> rfl) | (simp [*, errW_none, errW_some] <;> rfl), by (with_reducible repeat (first | apply Kd.R_alloc | apply Kd.R_drewN | apply Kd.R_drew)); exact HO120.out, by (with_reducible repeat (first | apply Kd.R_alloc | apply Kd.R_drewN | apply Kd.R_drew)); exact HO123.out, by repeat (first | (with_reducible first | exact HB.out | apply below_alloc | apply pw_below_drewN | apply below_drew1) | exact HB.out)⟩
                  · rw [if_neg c72] at H
                    exact absurd H (by simp)
                · rw [if_neg c71] at H
                  exact absurd H (by simp)

end Go.Proofs.Ytpnldoegchjmmaa.PFnExactPartsOf
