-- Written by a program of this repo (myprint: the kit's print with functions given by hand).
import Derived.Test.YtpnldoegchjmmaaPFnExactPartsOfx0
import Derived.Test.YtpnldoegchjmmaaPFnExactPartsOfx2
import Derived.Test.YtpnldoegchjmmaaPFnExactPartsOfx3
import Derived.Test.YtpnldoegchjmmaaPFnExactPartsOfx4
namespace Go.Proofs.Ytpnldoegchjmmaa.PFnExactPartsOf
attribute [local go_sem] Go.Proofs.Ytpnldoegchjmmaa.Cmp.str_gtr Go.Proofs.Ytpnldoegchjmmaa.Cmp.str_geq Go.Proofs.Ytpnldoegchjmmaa.Cmp.str_leq
open Go.RowKit Go.Proofs.YtpnldoegchjmmaaW.PrintWords Go.Proofs.YtpnldoegchjmmaaW.PrintLast Go.Proofs.YtpnldoegchjmmaaW.PrintMore
attribute [local go_sem] max2_int min2_int max_two min_two max_three min_three max_four min_four   -- for this text's walks alone
set_option linter.unusedVariables false
set_option linter.unusedSimpArgs false

/-! ### spec_l22Parts: function 11 -/
mutual
def spec_l22Parts.l0 : Nat → ByteArray → List ByteArray → List Bool → List (S39) → Int → List ByteArray → Int → Int → Option ((List (S39)) × Bool)
  | 0, _, _, _, _, _, _, _, _ => none
  | k + 1, x1, x6, x7, x9, x10, x20, x21, x22 => if x22 < x21 then (if 0 ≤ x22 then (if x22 < (x20.length : Int) then (if x22 < (x7.length : Int) then (if rdOf false x7 x22 = true then (if (wrap64 (x22 + 1)) < (x6.length : Int) then (if 0 ≤ (wrap64 (x22 + 1)) then ((spec_l22Find.f k x1 (rdOf ByteArray.empty x6 (wrap64 (x22 + 1))) x10).bind fun t170 => (spec_l22Parts.j1 k x1 x6 x7 x9 x10 (rdOf ByteArray.empty x20 x22) t170 x20 x21 x22)) else (none)) else (spec_l22Parts.j1 k x1 x6 x7 x9 x10 (rdOf ByteArray.empty x20 x22) (x1.size : Int) x20 x21 x22)) else (if 0 ≤ x10 then (if x10 ≤ (x1.size : Int) then ((spec_l2Head.f (x1.extract (x10 : Int).toNat x1.size) (rdOf ByteArray.empty x20 x22)).bind fun t168 => (if t168 = true then (spec_l22Parts.l0 k x1 x6 x7 x9 (wrap64 (x10 + ((rdOf ByteArray.empty x20 x22).size : Int))) x20 x21 (wrap64 (x22 + 1))) else (some (([] : List (S39)), false)))) else (none)) else (none))) else (none)) else (none)) else (none)) else (some (x9, (x10 == (x1.size : Int))))
def spec_l22Parts.j1 : Nat → ByteArray → List ByteArray → List Bool → List (S39) → Int → ByteArray → Int → List ByteArray → Int → Int → Option ((List (S39)) × Bool)
  | 0, _, _, _, _, _, _, _, _, _, _ => none
  | k + 1, x1, x6, x7, x9, x10, x12, x13, x20, x21, x22 => if x13 < 0 then (some (([] : List (S39)), false)) else (if 0 ≤ x10 then (if x10 ≤ x13 then (if x13 ≤ (x1.size : Int) then ((spec_l2Value.f k (x1.extract (x10 : Int).toNat (x13 : Int).toNat)).bind fun t171 => (if t171 = true then ((spec_l2With.f k x9 x12 (x1.extract (x10 : Int).toNat (x13 : Int).toNat)).bind fun t172 => (spec_l22Parts.l0 k x1 x6 x7 t172 x13 x20 x21 (wrap64 (x22 + 1)))) else (some (([] : List (S39)), false)))) else (none)) else (none)) else (none))
end
def spec_l22Parts.f (k : Nat) (a0 : ByteArray) (a1 : ByteArray) : Option ((List (S39)) × Bool) := (spec_l22Form.f k a0).bind fun bt159 => (spec_l22Parts.l0 k a1 bt159.1 bt159.2.1 ([] : List (S39)) 0 bt159.1 (bt159.1.length : Int) 0)
theorem spec_l22Parts.mono_l : ∀ k, (∀ y0 y1 y2 y3 y4 y5 y6 y7, LeO (spec_l22Parts.l0 k y0 y1 y2 y3 y4 y5 y6 y7) (spec_l22Parts.l0 (k + 1) y0 y1 y2 y3 y4 y5 y6 y7)) ∧ (∀ y0 y1 y2 y3 y4 y5 y6 y7 y8 y9, LeO (spec_l22Parts.j1 k y0 y1 y2 y3 y4 y5 y6 y7 y8 y9) (spec_l22Parts.j1 (k + 1) y0 y1 y2 y3 y4 y5 y6 y7 y8 y9))
  | 0 => ⟨fun _ _ _ _ _ _ _ _ r h => by simp [spec_l22Parts.l0] at h, fun _ _ _ _ _ _ _ _ _ _ r h => by simp [spec_l22Parts.j1] at h⟩
  | k + 1 => by
    obtain ⟨ih0, ih1⟩ := spec_l22Parts.mono_l k
    refine ⟨?_, ?_⟩
    · intro y0 y1 y2 y3 y4 y5 y6 y7
      unfold spec_l22Parts.l0
      repeat' first
      | (with_reducible exact ih0 _ _ _ _ _ _ _ _)
      | (with_reducible exact ih1 _ _ _ _ _ _ _ _ _ _)
      | (with_reducible exact spec_l22Find.mono _ _ _ _)
      | (with_reducible exact spec_l22Form.mono _ _)
      | (with_reducible exact spec_l2Value.mono _ _)
      | (with_reducible exact spec_l2With.mono _ _ _ _)
      | (with_reducible exact LeO.refl _)
      | (with_reducible exact LeO.none _)
      | (with_reducible refine LeO.ite ?_ ?_)
      | (with_reducible refine LeO.bind ?_ (fun _ => ?_))
      | exact ih0 _ _ _ _ _ _ _ _
      | exact ih1 _ _ _ _ _ _ _ _ _ _
      | exact spec_l22Find.mono _ _ _ _
      | exact spec_l22Form.mono _ _
      | exact spec_l2Value.mono _ _
      | exact spec_l2With.mono _ _ _ _
      | exact LeO.none _
      | refine LeO.ite ?_ ?_
      | refine LeO.bind ?_ (fun _ => ?_)
    · intro y0 y1 y2 y3 y4 y5 y6 y7 y8 y9
      unfold spec_l22Parts.j1
      repeat' first
      | (with_reducible exact ih0 _ _ _ _ _ _ _ _)
      | (with_reducible exact ih1 _ _ _ _ _ _ _ _ _ _)
      | (with_reducible exact spec_l22Find.mono _ _ _ _)
      | (with_reducible exact spec_l22Form.mono _ _)
      | (with_reducible exact spec_l2Value.mono _ _)
      | (with_reducible exact spec_l2With.mono _ _ _ _)
      | (with_reducible exact LeO.refl _)
      | (with_reducible exact LeO.none _)
      | (with_reducible refine LeO.ite ?_ ?_)
      | (with_reducible refine LeO.bind ?_ (fun _ => ?_))
      | exact ih0 _ _ _ _ _ _ _ _
      | exact ih1 _ _ _ _ _ _ _ _ _ _
      | exact spec_l22Find.mono _ _ _ _
      | exact spec_l22Form.mono _ _
      | exact spec_l2Value.mono _ _
      | exact spec_l2With.mono _ _ _ _
      | exact LeO.none _
      | refine LeO.ite ?_ ?_
      | refine LeO.bind ?_ (fun _ => ?_)
theorem spec_l22Parts.mono : ∀ a0 a1 k, LeO (spec_l22Parts.f k a0 a1) (spec_l22Parts.f (k + 1) a0 a1) := by
  intro a0 a1 k
  obtain ⟨ih0, ih1⟩ := spec_l22Parts.mono_l k
  unfold spec_l22Parts.f
  repeat' first
      | (with_reducible exact ih0 _ _ _ _ _ _ _ _)
      | (with_reducible exact ih1 _ _ _ _ _ _ _ _ _ _)
      | (with_reducible exact spec_l22Find.mono _ _ _ _)
      | (with_reducible exact spec_l22Form.mono _ _)
      | (with_reducible exact spec_l2Value.mono _ _)
      | (with_reducible exact spec_l2With.mono _ _ _ _)
      | (with_reducible exact LeO.refl _)
      | (with_reducible exact LeO.none _)
      | (with_reducible refine LeO.ite ?_ ?_)
      | (with_reducible refine LeO.bind ?_ (fun _ => ?_))
      | exact ih0 _ _ _ _ _ _ _ _
      | exact ih1 _ _ _ _ _ _ _ _ _ _
      | exact spec_l22Find.mono _ _ _ _
      | exact spec_l22Form.mono _ _
      | exact spec_l2Value.mono _ _
      | exact spec_l2With.mono _ _ _ _
      | exact LeO.none _
      | refine LeO.ite ?_ ?_
      | refine LeO.bind ?_ (fun _ => ?_)
set_option maxHeartbeats 8000000 in
set_option maxRecDepth 100000 in
theorem spec_l22Parts.calls (k : Nat) (a0 : ByteArray) (a1 : ByteArray) (r1 : List (S39)) (r2 : Bool) (w : World) (h : spec_l22Parts.f k a0 a1 = some (r1, r2)) :
    Calls Try.prog 11 #[.string a0, .string a1] w fun e w' => ∃ v0_ : Value, e = .returned (.tuple #[v0_, .bool r2]) ∧ Kd.R k39 39 w' w.heap.size (fun _ => True) v0_ r1 ∧ Below w.heap.size w w' := by
  have HB := Aside0.mk (Below.refl w.heap.size w)
  have H : ((spec_l22Form.f k a0).bind fun bt159 => (spec_l22Parts.l0 k a1 bt159.1 bt159.2.1 ([] : List (S39)) 0 bt159.1 (bt159.1.length : Int) 0)) = some (r1, r2) := h
  clear h
  replace H := Option.bind_eq_some_iff.mp H
  obtain ⟨⟨t159, t160, t161⟩, A30, H⟩ := H
  replace H : (spec_l22Parts.l0 k a1 t159 t160 ([] : List (S39)) 0 t159 (t159.length : Int) 0) = some (r1, r2) := H
  have A3 := Aside0.mk A30
  clear A30
  have H' := Aside0.mk H
  clear H
  go_enter Try.func11, Try.ntmps11
  go_wp2_with (first | ((with_reducible refine gate_callee (f := 9) rfl ?_); refine goesL_ (some 16) rfl rfl Try.func9 (by kernel_rfl) rfl #[.string a0] rfl (by (try simp only [List.map_toArray, List.map_cons, List.map_nil]); first | done | rfl | (simp only [List.length_drop, List.length_take]; rfl)) ?_; (with_reducible refine (spec_l22Form.calls k a0 t159 t160 t161 _ A3.out).mono ?_); rintro e w4 ⟨v162, v164, rfl, ho0, ho1, hb⟩; refine ⟨_, rfl, ?_⟩; have n0_ := Aside0.mk (Kd.R_lower ho0 (below_size (by repeat (first | (with_reducible first | exact HB.out | apply below_alloc | apply pw_below_drewN | apply below_drew1) | exact HB.out)))); have n1_ := Aside0.mk (Kd.R_lower ho1 (below_size (by repeat (first | (with_reducible first | exact HB.out | apply below_alloc | apply pw_below_drewN | apply below_drew1) | exact HB.out)))); have n2_ := Aside0.mk (below_step (by repeat (first | (with_reducible first | exact HB.out | apply below_alloc | apply pw_below_drewN | apply below_drew1) | exact HB.out)) hb); clear HB; have HO163 := n0_; have HO165 := n1_; have HB := n2_; clear n0_ n1_ n2_; (try clear hb); (try clear hb2); (try clear hk); (try clear hi); (try clear ho0); (try clear ho1); obtain ⟨Ao5, co5, eo5⟩ := Kd.R_slice HO163.out; subst eo5))
  go_loopg [9, 10, 22] k (fun kq v9 v10 v22 w' => ∃ (x9_1 : List (S39)) (x10_1 : Int) (x22_1 : Int), v10 = .int .i64 x10_1 ∧ v22 = .int .i64 x22_1 ∧ Aside0 (spec_l22Parts.l0 kq a1 t159 t160 x9_1 x10_1 t159 (t159.length : Int) x22_1 = some (r1, r2)) ∧ Aside0 (kq ≤ k) ∧ Aside0 (Kd.R Kd.string 9 w' w.heap.size (fun _ => True) (.slice Ao5 t159.length co5) t159) ∧ Aside0 (Kd.R Kd.bool 4 w' w.heap.size (fun _ => True) v164 t160) ∧ Aside0 (Kd.R k39 39 w' w.heap.size (fun _ => True) v9 x9_1) ∧ Aside0 (Kd.R Kd.string 9 w' w.heap.size (fun _ => True) (.slice Ao5 t159.length co5) t159) ∧ Aside0 (Below w.heap.size w w'))
  case atStart => exact ⟨(([] : List (S39))), (0), (0), (by first | rfl | (simp; done) | (simp [*]; done)), (by first | rfl | (simp; done) | (simp [*]; done)), H', ⟨Nat.le_refl _⟩, ⟨by (with_reducible repeat (first | apply Kd.R_alloc | apply Kd.R_drewN | apply Kd.R_drew)); exact HO163.out⟩, ⟨by (with_reducible repeat (first | apply Kd.R_alloc | apply Kd.R_drewN | apply Kd.R_drew)); exact HO165.out⟩, ⟨by first | exact Kd.R_nil _ _ _ _ _ | exact Kd.N_nil _ _ _ _ _ | exact Kd.V_nil _ _ _ _ _ | exact Kd.Q_nil _ _ _ _ _ | exact Kd.S_nil _ _ _ _ _⟩, ⟨by (with_reducible repeat (first | apply Kd.R_alloc | apply Kd.R_drewN | apply Kd.R_drew)); exact HO163.out⟩, ⟨by repeat (first | (with_reducible first | exact HB.out | apply below_alloc | apply pw_below_drewN | apply below_drew1) | exact HB.out)⟩⟩
  case round =>
    clear H'
    try clear c1
    try clear p2
    obtain ⟨x9_1, x10_1, x22_1, rfl, rfl, HA, HK1, HO_6, HO_7, HO_9, HO_20, HB⟩ := hrel
    cases gk with
    | zero => exact absurd HA.out (by simp [spec_l22Parts.l0])
    | succ k1 =>
      have H := HA.out
      clear HA
      simp only [spec_l22Parts.l0] at H
      by_cases c6 : x22_1 < (t159.length : Int)
      · rw [if_pos c6] at H
        have c6b0 : decide (x22_1 < (t159.length : Int)) = true := decide_eq_true c6
        clear c6
        by_cases c7 : 0 ≤ x22_1
        · rw [if_pos c7] at H
          have c7b0 : decide (0 ≤ x22_1) = true := decide_eq_true c7
          clear c7
          by_cases c8 : x22_1 < (t159.length : Int)
          · rw [if_pos c8] at H
            have c8b0 : decide (x22_1 < (t159.length : Int)) = true := decide_eq_true c8
            clear c8
            by_cases c9 : x22_1 < (t160.length : Int)
            · rw [if_pos c9] at H
              have c9b0 : decide (x22_1 < (t160.length : Int)) = true := decide_eq_true c9
              clear c9
              obtain ⟨bq10, hbq10⟩ : ∃ b_ : Bool, b_ = (rdOf false t160 x22_1) := ⟨_, rfl⟩
              replace H : (if bq10 = true then (if (wrap64 (x22_1 + 1)) < (t159.length : Int) then (if 0 ≤ (wrap64 (x22_1 + 1)) then ((spec_l22Find.f k1 a1 (rdOf ByteArray.empty t159 (wrap64 (x22_1 + 1))) x10_1).bind fun t170 => (spec_l22Parts.j1 k1 a1 t159 t160 x9_1 x10_1 (rdOf ByteArray.empty t159 x22_1) t170 t159 (t159.length : Int) x22_1)) else (none)) else (spec_l22Parts.j1 k1 a1 t159 t160 x9_1 x10_1 (rdOf ByteArray.empty t159 x22_1) (a1.size : Int) t159 (t159.length : Int) x22_1)) else (if 0 ≤ x10_1 then (if x10_1 ≤ (a1.size : Int) then ((spec_l2Head.f (a1.extract (x10_1 : Int).toNat a1.size) (rdOf ByteArray.empty t159 x22_1)).bind fun t168 => (if t168 = true then (spec_l22Parts.l0 k1 a1 t159 t160 x9_1 (wrap64 (x10_1 + ((rdOf ByteArray.empty t159 x22_1).size : Int))) t159 (t159.length : Int) (wrap64 (x22_1 + 1))) else (some (([] : List (S39)), false)))) else (none)) else (none))) = some (r1, r2) := by rw [← hbq10] at H; exact H
              have Nbq10 := Aside0.mk hbq10
              clear hbq10
              by_cases c11 : bq10 = true
              · subst c11
                have H1 : (if (wrap64 (x22_1 + 1)) < (t159.length : Int) then (if 0 ≤ (wrap64 (x22_1 + 1)) then ((spec_l22Find.f k1 a1 (rdOf ByteArray.empty t159 (wrap64 (x22_1 + 1))) x10_1).bind fun t170 => (spec_l22Parts.j1 k1 a1 t159 t160 x9_1 x10_1 (rdOf ByteArray.empty t159 x22_1) t170 t159 (t159.length : Int) x22_1)) else (none)) else (spec_l22Parts.j1 k1 a1 t159 t160 x9_1 x10_1 (rdOf ByteArray.empty t159 x22_1) (a1.size : Int) t159 (t159.length : Int) x22_1)) = some (r1, r2) := by rw [if_pos rfl] at H; exact H
                clear H
                have H := H1
                clear H1
                have HC12 := Aside0.mk H
                clear H
                have p166 : 0 ≤ (x22_1 : Int) := of_decide_eq_true (by first | (with_reducible assumption) | assumption)
                have q166 : x22_1 < (t159.length : Int) := of_decide_eq_true (by first | (with_reducible assumption) | assumption)
                obtain ⟨ad166, e166, hx166_0⟩ := Kd.at_string (Kd.R_reads' HO_20.out).2.2 x22_1 p166 q166
                cases e166
                replace p166 := eq_true p166
                replace q166 := eq_true q166
                obtain ⟨Ao13, co13, eo13⟩ := Kd.R_slice HO_7.out
                subst eo13
                have p167 : 0 ≤ (x22_1 : Int) := of_decide_eq_true (by first | (with_reducible assumption) | assumption)
                have q167 : x22_1 < (t160.length : Int) := of_decide_eq_true (by first | (with_reducible assumption) | assumption)
                obtain ⟨ad167, e167, hx167_0⟩ := Kd.at_bool (Kd.R_reads' HO_7.out).2.2 x22_1 p167 q167
                (try rw [← Nbq10.out] at hx167_0)
                cases e167
                replace p167 := eq_true p167
                replace q167 := eq_true q167
                go_upto_if 48 with (fail)
                go_cut [13] (fun v13 wc => ∃ (kq : Nat) (x13_11 : Int), v13 = .int .i64 x13_11 ∧ Aside0 (spec_l22Parts.j1 kq a1 t159 t160 x9_1 x10_1 (rdOf ByteArray.empty t159 x22_1) x13_11 t159 (t159.length : Int) x22_1 = some (r1, r2)) ∧ Aside0 (kq ≤ k1) ∧ Aside0 (Kd.R Kd.string 9 wc w.heap.size (fun _ => True) (.slice (some ad166) t159.length co5) t159) ∧ Aside0 (Kd.R Kd.bool 4 wc w.heap.size (fun _ => True) (.slice (some ad167) t160.length co13) t160) ∧ Aside0 (Kd.R k39 39 wc w.heap.size (fun _ => True) u9 x9_1) ∧ Aside0 (Kd.R Kd.string 9 wc w.heap.size (fun _ => True) (.slice (some ad166) t159.length co5) t159) ∧ Aside0 (Below w.heap.size w wc))
                case first =>
                  have H := HC12.out
                  clear HC12
                  by_cases c14 : (wrap64 (x22_1 + 1)) < (t159.length : Int)
                  · rw [if_pos c14] at H
                    have c14b0 : decide ((wrap64 (x22_1 + 1)) < (t159.length : Int)) = true := decide_eq_true c14
                    clear c14
                    (first | rw [c14b0] | (simp only [i64_w, i32_w]; rw [c14b0]) | skip)
                    obtain ⟨ji15, hji15⟩ : ∃ j_ : Int, (wrap64 (x22_1 + 1)) = j_ := ⟨_, rfl⟩
                    replace H : (if 0 ≤ (ji15) then ((spec_l22Find.f k1 a1 (rdOf ByteArray.empty t159 (ji15)) x10_1).bind fun t170 => (spec_l22Parts.j1 k1 a1 t159 t160 x9_1 x10_1 (rdOf ByteArray.empty t159 x22_1) t170 t159 (t159.length : Int) x22_1)) else (none)) = some (r1, r2) := by first | (rw [hji15] at H; exact H) | (simp only [hji15] at H ⊢; exact H)
                    (try rw [hji15] at c14b0)
                    have hji15w : (IntKind.i64.wrap (x22_1 + 1)) = ji15 := (i64_w _).trans hji15
                    by_cases c16 : 0 ≤ (ji15)
                    · rw [if_pos c16] at H
                      have c16b0 : decide (0 ≤ (ji15)) = true := decide_eq_true c16
                      clear c16
                      replace H := Option.bind_eq_some_iff.mp H
                      obtain ⟨t170, A170, H⟩ := H
                      replace H : (spec_l22Parts.j1 k1 a1 t159 t160 x9_1 x10_1 (rdOf ByteArray.empty t159 x22_1) t170 t159 (t159.length : Int) x22_1) = some (r1, r2) := H
                      have A17 := Aside0.mk A170
                      clear A170
                      have H' := Aside0.mk H
                      clear H
                      have p169 : 0 ≤ ((ji15) : Int) := of_decide_eq_true (by first | (with_reducible assumption) | assumption)
                      have q169 : (ji15) < (t159.length : Int) := of_decide_eq_true (by first | (with_reducible assumption) | assumption)
                      obtain ⟨ad169, e169, hx169_0⟩ := Kd.at_string (Kd.R_reads' HO_6.out).2.2 (ji15) p169 q169
                      obtain rfl : ad166 = ad169 := (by injection e169)
                      replace p169 := eq_true p169
                      replace q169 := eq_true q169
                      go_wp2_with (first | ((with_reducible refine gate_callee (f := 21) rfl ?_); refine goesL_ (some 56) rfl rfl Try.func21 (by kernel_rfl) rfl #[.string a1, .string (rdOf ByteArray.empty t159 (ji15)), .int .i64 x10_1] rfl (by (try simp only [List.map_toArray, List.map_cons, List.map_nil]); first | done | (simp only [hji15]; rfl) | rfl | (simp only [List.length_drop, List.length_take]; rfl)) ?_; (with_reducible refine (spec_l22Find.calls k1 a1 (rdOf ByteArray.empty t159 (ji15)) x10_1 t170 _ A17.out).mono ?_); rintro e w' ⟨rfl, ⟨nd, rfl⟩⟩; refine ⟨_, rfl, ?_⟩))
                      go_meet
                      case rel => exact ⟨_, (t170), (by first | rfl | (simp; done) | (simp [*]; done)), H', ⟨by have := HK1.out; first | omega | exact Nat.le_refl _⟩, ⟨by (with_reducible repeat (first | apply Kd.R_alloc | apply Kd.R_drewN | apply Kd.R_drew)); exact HO_6.out⟩, ⟨by (with_reducible repeat (first | apply Kd.R_alloc | apply Kd.R_drewN | apply Kd.R_drew)); exact HO_7.out⟩, ⟨by (with_reducible repeat (first | apply Kd.R_alloc | apply Kd.R_drewN | apply Kd.R_drew)); exact HO_9.out⟩, ⟨by (with_reducible repeat (first | apply Kd.R_alloc | apply Kd.R_drewN | apply Kd.R_drew)); exact HO_20.out⟩, ⟨by repeat (first | (with_reducible first | exact HB.out | apply below_alloc | apply pw_below_drewN | apply below_drew1) | exact HB.out)⟩⟩
                    · rw [if_neg c16] at H
                      exact absurd H (by simp)
                  · rw [if_neg c14] at H
                    have c14b0 : decide ((wrap64 (x22_1 + 1)) < (t159.length : Int)) = false := decide_eq_false c14
                    clear c14
                    (first | rw [c14b0] | (simp only [i64_w, i32_w]; rw [c14b0]) | skip)
                    have H' := Aside0.mk H
                    clear H
                    go_wp2
                    go_meet
                    case rel => exact ⟨_, ((a1.size : Int)), (by first | rfl | (simp; done) | (simp [*]; done)), H', ⟨by have := HK1.out; first | omega | exact Nat.le_refl _⟩, ⟨by (with_reducible repeat (first | apply Kd.R_alloc | apply Kd.R_drewN | apply Kd.R_drew)); exact HO_6.out⟩, ⟨by (with_reducible repeat (first | apply Kd.R_alloc | apply Kd.R_drewN | apply Kd.R_drew)); exact HO_7.out⟩, ⟨by (with_reducible repeat (first | apply Kd.R_alloc | apply Kd.R_drewN | apply Kd.R_drew)); exact HO_9.out⟩, ⟨by (with_reducible repeat (first | apply Kd.R_alloc | apply Kd.R_drewN | apply Kd.R_drew)); exact HO_20.out⟩, ⟨by repeat (first | (with_reducible first | exact HB.out | apply below_alloc | apply pw_below_drewN | apply below_drew1) | exact HB.out)⟩⟩
                case rest =>
                  clear HC12
                  try clear c1
                  try clear p1
                  try clear q1
                  try clear hx1
                  try clear c2
                  try clear p2
                  try clear c6
                  try clear c6b0
                  try clear p6
                  try clear c7
                  try clear c7b0
                  try clear c8
                  try clear c8b0
                  try clear c9
                  try clear c9b0
                  try clear q10
                  try clear c11
                  try clear c14
                  try clear c14b0
                  try clear c16
                  try clear c16b0
                  try clear p16
                  try clear q16
                  try clear hx16
                  try clear hx166_0
                  try clear hx167_0
                  try clear hx169_0
                  try clear p166
                  try clear p167
                  try clear p169
                  try clear p2
                  try clear q166
                  try clear q167
                  try clear q169
                  obtain ⟨kq, x13_11, rfl, HA, HJ11, HO_6, HO_7, HO_9, HO_20, HB⟩ := hcut
                  cases kq with
                  | zero => exact absurd HA.out (by simp [spec_l22Parts.j1])
                  | succ kj11 =>
                    have H := HA.out
                    clear HA
                    simp only [spec_l22Parts.j1] at H
                    by_cases c18 : x13_11 < 0
                    · rw [if_pos c18] at H
                      have c18b0 : decide (x13_11 < 0) = true := decide_eq_true c18
                      clear c18
                      simp only [Option.some.injEq, Prod.mk.injEq] at H
                      obtain ⟨rfl, rfl⟩ := H
                      go_wp2
                      go_ret2
                      exact ⟨_, by first | rfl | (simp [bne]; done) | (simp [errW_none, errW_some] <;> rfl) | (simp [*, errW_none, errW_some] <;> rfl), by first | exact Kd.R_nil _ _ _ _ _ | exact Kd.N_nil _ _ _ _ _ | exact Kd.V_nil _ _ _ _ _ | exact Kd.Q_nil _ _ _ _ _ | exact Kd.S_nil _ _ _ _ _, by repeat (first | (with_reducible first | exact HB.out | apply below_alloc | apply pw_below_drewN | apply below_drew1) | exact HB.out)⟩
                    · rw [if_neg c18] at H
                      have c18b0 : decide (x13_11 < 0) = false := decide_eq_false c18
                      clear c18
                      by_cases c19 : 0 ≤ x10_1
                      · rw [if_pos c19] at H
                        have c19b0 := eq_true c19
                        have c19b1 : decide (0 ≤ x10_1) = true := decide_eq_true c19
                        clear c19
                        by_cases c20 : x10_1 ≤ x13_11
                        · rw [if_pos c20] at H
                          have c20b0 := eq_true c20
                          have c20b1 : decide (x10_1 ≤ x13_11) = true := decide_eq_true c20
                          clear c20
                          by_cases c21 : x13_11 ≤ (a1.size : Int)
                          · rw [if_pos c21] at H
                            have c21b0 := eq_true c21
                            have c21b1 : decide (x13_11 ≤ (a1.size : Int)) = true := decide_eq_true c21
                            clear c21
                            replace H := Option.bind_eq_some_iff.mp H
                            obtain ⟨t171, A220, H⟩ := H
                            replace H : (if t171 = true then ((spec_l2With.f kj11 x9_1 (rdOf ByteArray.empty t159 x22_1) (a1.extract (x10_1 : Int).toNat (x13_11 : Int).toNat)).bind fun t172 => (spec_l22Parts.l0 kj11 a1 t159 t160 t172 x13_11 t159 (t159.length : Int) (wrap64 (x22_1 + 1)))) else (some (([] : List (S39)), false))) = some (r1, r2) := H
                            have A22 := Aside0.mk A220
                            clear A220
                            by_cases c23 : t171 = true
                            · subst c23
                              have H1 : ((spec_l2With.f kj11 x9_1 (rdOf ByteArray.empty t159 x22_1) (a1.extract (x10_1 : Int).toNat (x13_11 : Int).toNat)).bind fun t172 => (spec_l22Parts.l0 kj11 a1 t159 t160 t172 x13_11 t159 (t159.length : Int) (wrap64 (x22_1 + 1)))) = some (r1, r2) := by rw [if_pos rfl] at H; exact H
                              clear H
                              have H := H1
                              clear H1
                              have c24b0 := eq_true (of_decide_eq_true (by first | (with_reducible assumption) | assumption) : 0 ≤ x10_1)
                              have c25b0 := eq_true (of_decide_eq_true (by first | (with_reducible assumption) | assumption) : x10_1 ≤ x13_11)
                              have c26b0 := eq_true (of_decide_eq_true (by first | (with_reducible assumption) | assumption) : x13_11 ≤ (a1.size : Int))
                              replace H := Option.bind_eq_some_iff.mp H
                              obtain ⟨t172, A270, H⟩ := H
                              replace H : (spec_l22Parts.l0 kj11 a1 t159 t160 t172 x13_11 t159 (t159.length : Int) (wrap64 (x22_1 + 1))) = some (r1, r2) := H
                              have A27 := Aside0.mk A270
                              clear A270
                              have H' := Aside0.mk H
                              clear H
                              go_wp2_with (first | (go_at_call 22; (with_reducible refine (spec_l2Value.calls kj11 (a1.extract (x10_1 : Int).toNat (x13_11 : Int).toNat) true _ A22.out).mono ?_); rintro e w' ⟨rfl, ⟨nd, rfl⟩⟩; obtain ⟨Ao28, co28, eo28⟩ := Kd.R_slice HO_9.out; subst eo28) | ((with_reducible refine gate_callee (f := 23) rfl ?_); refine goesL_ (some 73) rfl rfl Try.func23 (by kernel_rfl) rfl #[.slice Ao28 x9_1.length co28, .string (rdOf ByteArray.empty t159 x22_1), .string (a1.extract (x10_1 : Int).toNat (x13_11 : Int).toNat)] rfl (by (try simp only [List.map_toArray, List.map_cons, List.map_nil]); first | done | rfl | (simp only [List.length_drop, List.length_take]; rfl)) ?_; (with_reducible refine (spec_l2With.calls kj11 _ _ x9_1 (rdOf ByteArray.empty t159 x22_1) (a1.extract (x10_1 : Int).toNat (x13_11 : Int).toNat) t172 _ ?side1 ?side2 A27.out).mono ?_); (case side1 => repeat (first | exact (Kd.R_reads' HO_9.out).2.2 | (with_reducible refine Kd.C_alloc ?_ _) | (with_reducible refine Kd.C_drewN ?_ _) | (with_reducible refine Kd.C_drew ?_))); (case side2 => exact (Kd.R_reads' HO_9.out).2.1); rintro e w29 ⟨v173, rfl, ho0, hb⟩; refine ⟨_, rfl, ?_⟩; have n0_ := Aside0.mk (Kd.R_below (by (with_reducible repeat (first | apply Kd.R_alloc | apply Kd.R_drewN | apply Kd.R_drew)); exact HO_6.out) hb); have n1_ := Aside0.mk (Kd.R_below (by (with_reducible repeat (first | apply Kd.R_alloc | apply Kd.R_drewN | apply Kd.R_drew)); exact HO_7.out) hb); have n2_ := Aside0.mk (Kd.R_elder' (by (with_reducible repeat (first | apply Kd.R_alloc | apply Kd.R_drewN | apply Kd.R_drew)); exact HO_9.out) (Kd.R_base ho0) hb); have n3_ := Aside0.mk (Kd.R_below (by (with_reducible repeat (first | apply Kd.R_alloc | apply Kd.R_drewN | apply Kd.R_drew)); exact HO_20.out) hb); have n4_ := Aside0.mk (Kd.R_lower (Kd.R_new' ho0 (Kd.R_lt (by (with_reducible repeat (first | apply Kd.R_alloc | apply Kd.R_drewN | apply Kd.R_drew)); exact HO_9.out))) (below_size (by repeat (first | (with_reducible first | exact HB.out | apply below_alloc | apply pw_below_drewN | apply below_drew1) | exact HB.out)))); have n5_ := Aside0.mk (below_step (by repeat (first | (with_reducible first | exact HB.out | apply below_alloc | apply pw_below_drewN | apply below_drew1) | exact HB.out)) hb); clear HO_6; clear HO_7; clear HO_9; clear HO_20; clear HB; have HO_6 := n0_; have HO_7 := n1_; have HO_9 := n2_; have HO_20 := n3_; have HO174 := n4_; have HB := n5_; clear n0_ n1_ n2_ n3_ n4_ n5_; (try clear hb); (try clear hb2); (try clear hk); (try clear hi); (try clear ho0)))
                              go_roundg kj11
                              case measure => have := HK1.out; have := HJ11.out; omega
                              case rel => exact ⟨(t172), (x13_11), (wrap64 (x22_1 + 1)), (by first | rfl | (simp; done) | (simp [*]; done)), (by first | rfl | (simp; done) | (simp [*]; done)), H', ⟨by have := HK1.out; have := HJ11.out; omega⟩, ⟨by (with_reducible repeat (first | apply Kd.R_alloc | apply Kd.R_drewN | apply Kd.R_drew)); exact HO_6.out⟩, ⟨by (with_reducible repeat (first | apply Kd.R_alloc | apply Kd.R_drewN | apply Kd.R_drew)); exact HO_7.out⟩, ⟨by (with_reducible repeat (first | apply Kd.R_alloc | apply Kd.R_drewN | apply Kd.R_drew)); exact Kd.R_mono HO174.out (fun _ hk => trivial)⟩, ⟨by (with_reducible repeat (first | apply Kd.R_alloc | apply Kd.R_drewN | apply Kd.R_drew)); exact HO_20.out⟩, ⟨by repeat (first | (with_reducible first | exact HB.out | apply below_alloc | apply pw_below_drewN | apply below_drew1) | exact HB.out)⟩⟩
                            · replace c23 := Bool.eq_false_iff.mpr c23
                              subst c23
                              have H1 : (some (([] : List (S39)), false)) = some (r1, r2) := by rw [if_neg (show ¬ (false = true) by decide)] at H; exact H
                              clear H
                              have H := H1
                              clear H1
                              simp only [Option.some.injEq, Prod.mk.injEq] at H
                              obtain ⟨rfl, rfl⟩ := H
                              go_wp2_with (first | (go_at_call 22; (with_reducible refine (spec_l2Value.calls kj11 (a1.extract (x10_1 : Int).toNat (x13_11 : Int).toNat) false _ A22.out).mono ?_); rintro e w' ⟨rfl, ⟨nd, rfl⟩⟩))
                              go_ret2
                              exact ⟨_, by first | rfl | (simp [bne]; done) | (simp [errW_none, errW_some] <;> rfl) | (simp [*, errW_none, errW_some] <;> rfl), by first | exact Kd.R_nil _ _ _ _ _ | exact Kd.N_nil _ _ _ _ _ | exact Kd.V_nil _ _ _ _ _ | exact Kd.Q_nil _ _ _ _ _ | exact Kd.S_nil _ _ _ _ _, by repeat (first | (with_reducible first | exact HB.out | apply below_alloc | apply pw_below_drewN | apply below_drew1) | exact HB.out)⟩
                          · rw [if_neg c21] at H
                            exact absurd H (by simp)
                        · rw [if_neg c20] at H
                          exact absurd H (by simp)
                      · rw [if_neg c19] at H
                        exact absurd H (by simp)
              · replace c11 := Bool.eq_false_iff.mpr c11
                subst c11
                have H1 : (if 0 ≤ x10_1 then (if x10_1 ≤ (a1.size : Int) then ((spec_l2Head.f (a1.extract (x10_1 : Int).toNat a1.size) (rdOf ByteArray.empty t159 x22_1)).bind fun t168 => (if t168 = true then (spec_l22Parts.l0 k1 a1 t159 t160 x9_1 (wrap64 (x10_1 + ((rdOf ByteArray.empty t159 x22_1).size : Int))) t159 (t159.length : Int) (wrap64 (x22_1 + 1))) else (some (([] : List (S39)), false)))) else (none)) else (none)) = some (r1, r2) := by rw [if_neg (show ¬ (false = true) by decide)] at H; exact H
                clear H
                have H := H1
                clear H1
                by_cases c30 : 0 ≤ x10_1
                · rw [if_pos c30] at H
                  have c30b0 := eq_true c30
                  have c30b1 : decide (0 ≤ x10_1) = true := decide_eq_true c30
                  clear c30
                  by_cases c31 : x10_1 ≤ (a1.size : Int)
                  · rw [if_pos c31] at H
                    have c31b0 := eq_true c31
                    have c31b1 : decide (x10_1 ≤ (a1.size : Int)) = true := decide_eq_true c31
                    clear c31
                    replace H := Option.bind_eq_some_iff.mp H
                    obtain ⟨t168, A320, H⟩ := H
                    replace H : (if t168 = true then (spec_l22Parts.l0 k1 a1 t159 t160 x9_1 (wrap64 (x10_1 + ((rdOf ByteArray.empty t159 x22_1).size : Int))) t159 (t159.length : Int) (wrap64 (x22_1 + 1))) else (some (([] : List (S39)), false))) = some (r1, r2) := H
                    have A32 := Aside0.mk A320
                    clear A320
                    by_cases c33 : t168 = true
                    · subst c33
                      have H1 : (spec_l22Parts.l0 k1 a1 t159 t160 x9_1 (wrap64 (x10_1 + ((rdOf ByteArray.empty t159 x22_1).size : Int))) t159 (t159.length : Int) (wrap64 (x22_1 + 1))) = some (r1, r2) := by rw [if_pos rfl] at H; exact H
                      clear H
                      have H := H1
                      clear H1
                      have H' := Aside0.mk H
                      clear H
                      have p166 : 0 ≤ (x22_1 : Int) := of_decide_eq_true (by first | (with_reducible assumption) | assumption)
                      have q166 : x22_1 < (t159.length : Int) := of_decide_eq_true (by first | (with_reducible assumption) | assumption)
                      obtain ⟨ad166, e166, hx166_0⟩ := Kd.at_string (Kd.R_reads' HO_20.out).2.2 x22_1 p166 q166
                      cases e166
                      replace p166 := eq_true p166
                      replace q166 := eq_true q166
                      obtain ⟨Ao34, co34, eo34⟩ := Kd.R_slice HO_7.out
                      subst eo34
                      have p167 : 0 ≤ (x22_1 : Int) := of_decide_eq_true (by first | (with_reducible assumption) | assumption)
                      have q167 : x22_1 < (t160.length : Int) := of_decide_eq_true (by first | (with_reducible assumption) | assumption)
                      obtain ⟨ad167, e167, hx167_0⟩ := Kd.at_bool (Kd.R_reads' HO_7.out).2.2 x22_1 p167 q167
                      (try rw [← Nbq10.out] at hx167_0)
                      cases e167
                      replace p167 := eq_true p167
                      replace q167 := eq_true q167
                      go_wp2_with (first | ((with_reducible refine gate_callee (f := 20) rfl ?_); refine goesL_ (some 36) rfl rfl Try.func20 (by kernel_rfl) rfl #[.string (a1.extract (x10_1 : Int).toNat a1.size), .string (rdOf ByteArray.empty t159 x22_1)] rfl (by (try simp only [List.map_toArray, List.map_cons, List.map_nil]); first | done | rfl | (simp only [List.length_drop, List.length_take]; rfl)) ?_; (with_reducible refine (spec_l2Head.calls (a1.extract (x10_1 : Int).toNat a1.size) (rdOf ByteArray.empty t159 x22_1) true _ A32.out).mono ?_); rintro e w' ⟨rfl, ⟨nd, rfl⟩⟩; refine ⟨_, rfl, ?_⟩))
                      go_roundg k1
                      case measure => have := HK1.out; omega
                      case rel => exact ⟨(x9_1), (wrap64 (x10_1 + ((rdOf ByteArray.empty t159 x22_1).size : Int))), (wrap64 (x22_1 + 1)), (by first | rfl | (simp; done) | (simp [*]; done)), (by first | rfl | (simp; done) | (simp [*]; done)), H', ⟨by have := HK1.out; omega⟩, ⟨by (with_reducible repeat (first | apply Kd.R_alloc | apply Kd.R_drewN | apply Kd.R_drew)); exact HO_6.out⟩, ⟨by (with_reducible repeat (first | apply Kd.R_alloc | apply Kd.R_drewN | apply Kd.R_drew)); exact HO_7.out⟩, ⟨by (with_reducible repeat (first | apply Kd.R_alloc | apply Kd.R_drewN | apply Kd.R_drew)); exact HO_9.out⟩, ⟨by (with_reducible repeat (first | apply Kd.R_alloc | apply Kd.R_drewN | apply Kd.R_drew)); exact HO_20.out⟩, ⟨by repeat (first | (with_reducible first | exact HB.out | apply below_alloc | apply pw_below_drewN | apply below_drew1) | exact HB.out)⟩⟩
                    · replace c33 := Bool.eq_false_iff.mpr c33
                      subst c33
                      have H1 : (some (([] : List (S39)), false)) = some (r1, r2) := by rw [if_neg (show ¬ (false = true) by decide)] at H; exact H
                      clear H
                      have H := H1
                      clear H1
                      simp only [Option.some.injEq, Prod.mk.injEq] at H
                      obtain ⟨rfl, rfl⟩ := H
                      have p166 : 0 ≤ (x22_1 : Int) := of_decide_eq_true (by first | (with_reducible assumption) | assumption)
                      have q166 : x22_1 < (t159.length : Int) := of_decide_eq_true (by first | (with_reducible assumption) | assumption)
                      obtain ⟨ad166, e166, hx166_0⟩ := Kd.at_string (Kd.R_reads' HO_20.out).2.2 x22_1 p166 q166
                      cases e166
                      replace p166 := eq_true p166
                      replace q166 := eq_true q166
                      obtain ⟨Ao35, co35, eo35⟩ := Kd.R_slice HO_7.out
                      subst eo35
                      have p167 : 0 ≤ (x22_1 : Int) := of_decide_eq_true (by first | (with_reducible assumption) | assumption)
                      have q167 : x22_1 < (t160.length : Int) := of_decide_eq_true (by first | (with_reducible assumption) | assumption)
                      obtain ⟨ad167, e167, hx167_0⟩ := Kd.at_bool (Kd.R_reads' HO_7.out).2.2 x22_1 p167 q167
                      (try rw [← Nbq10.out] at hx167_0)
                      cases e167
                      replace p167 := eq_true p167
                      replace q167 := eq_true q167
                      go_wp2_with (first | ((with_reducible refine gate_callee (f := 20) rfl ?_); refine goesL_ (some 36) rfl rfl Try.func20 (by kernel_rfl) rfl #[.string (a1.extract (x10_1 : Int).toNat a1.size), .string (rdOf ByteArray.empty t159 x22_1)] rfl (by (try simp only [List.map_toArray, List.map_cons, List.map_nil]); first | done | rfl | (simp only [List.length_drop, List.length_take]; rfl)) ?_; (with_reducible refine (spec_l2Head.calls (a1.extract (x10_1 : Int).toNat a1.size) (rdOf ByteArray.empty t159 x22_1) false _ A32.out).mono ?_); rintro e w' ⟨rfl, ⟨nd, rfl⟩⟩; refine ⟨_, rfl, ?_⟩))
                      go_ret2
                      exact ⟨_, by first | rfl | (simp [bne]; done) | (simp [errW_none, errW_some] <;> rfl) | (simp [*, errW_none, errW_some] <;> rfl), by first | exact Kd.R_nil _ _ _ _ _ | exact Kd.N_nil _ _ _ _ _ | exact Kd.V_nil _ _ _ _ _ | exact Kd.Q_nil _ _ _ _ _ | exact Kd.S_nil _ _ _ _ _, by repeat (first | (with_reducible first | exact HB.out | apply below_alloc | apply pw_below_drewN | apply below_drew1) | exact HB.out)⟩
                  · rw [if_neg c31] at H
                    exact absurd H (by simp)
                · rw [if_neg c30] at H
                  exact absurd H (by simp)
            · rw [if_neg c9] at H
              exact absurd H (by simp)
          · rw [if_neg c8] at H
            exact absurd H (by simp)
        · rw [if_neg c7] at H
          exact absurd H (by simp)
      · rw [if_neg c6] at H
        have c6b0 : decide (x22_1 < (t159.length : Int)) = false := decide_eq_false c6
        clear c6
        simp only [Option.some.injEq, Prod.mk.injEq] at H
        obtain ⟨rfl, rfl⟩ := H
        go_wp2
        go_ret2
        exact ⟨_, by first | rfl | (simp [bne]; done) | (simp [errW_none, errW_some] <;> rfl) | (simp [*, errW_none, errW_some] <;> rfl), by (with_reducible repeat (first | apply Kd.R_alloc | apply Kd.R_drewN | apply Kd.R_drew)); exact HO_9.out, by repeat (first | (with_reducible first | exact HB.out | apply below_alloc | apply pw_below_drewN | apply below_drew1) | exact HB.out)⟩

/-! ### spec_PartsOf: function 4 -/
def spec_PartsOf.j0 : Nat → ByteArray → ByteArray → Bool → Option ((List (S39)) × Bool)
  | 0, _, _, _ => none
  | k + 1, x0, x1, x23 => if x23 = true then (some (([] : List (S39)), false)) else ((spec_l22Parts.f k x0 x1).bind fun bt183 => (if bt183.2 = true then (some (bt183.1, true)) else (some (([] : List (S39)), false))))
def spec_PartsOf.f (k : Nat) (a0 : ByteArray) (a1 : ByteArray) : Option ((List (S39)) × Bool) := (spec_l22Form.f k a0).bind fun bt175 => (if bt175.2.2 = true then ((spec_l22Text.f k a1 500).bind fun t182 => (spec_PartsOf.j0 k a0 a1 (!t182))) else (spec_PartsOf.j0 k a0 a1 true))
theorem spec_PartsOf.mono_l : ∀ k, (∀ y0 y1 y2, LeO (spec_PartsOf.j0 k y0 y1 y2) (spec_PartsOf.j0 (k + 1) y0 y1 y2))
  | 0 => fun _ _ _ r h => by simp [spec_PartsOf.j0] at h
  | k + 1 => by
    have ih0 := spec_PartsOf.mono_l k
    · intro y0 y1 y2
      unfold spec_PartsOf.j0
      repeat' first
      | (with_reducible exact ih0 _ _ _)
      | (with_reducible exact spec_l22Form.mono _ _)
      | (with_reducible exact spec_l22Parts.mono _ _ _)
      | (with_reducible exact spec_l22Text.mono _ _ _)
      | (with_reducible exact LeO.refl _)
      | (with_reducible exact LeO.none _)
      | (with_reducible refine LeO.ite ?_ ?_)
      | (with_reducible refine LeO.bind ?_ (fun _ => ?_))
      | exact ih0 _ _ _
      | exact spec_l22Form.mono _ _
      | exact spec_l22Parts.mono _ _ _
      | exact spec_l22Text.mono _ _ _
      | exact LeO.none _
      | refine LeO.ite ?_ ?_
      | refine LeO.bind ?_ (fun _ => ?_)
theorem spec_PartsOf.mono : ∀ a0 a1 k, LeO (spec_PartsOf.f k a0 a1) (spec_PartsOf.f (k + 1) a0 a1) := by
  intro a0 a1 k
  have ih0 := spec_PartsOf.mono_l k
  unfold spec_PartsOf.f
  repeat' first
      | (with_reducible exact ih0 _ _ _)
      | (with_reducible exact spec_l22Form.mono _ _)
      | (with_reducible exact spec_l22Parts.mono _ _ _)
      | (with_reducible exact spec_l22Text.mono _ _ _)
      | (with_reducible exact LeO.refl _)
      | (with_reducible exact LeO.none _)
      | (with_reducible refine LeO.ite ?_ ?_)
      | (with_reducible refine LeO.bind ?_ (fun _ => ?_))
      | exact ih0 _ _ _
      | exact spec_l22Form.mono _ _
      | exact spec_l22Parts.mono _ _ _
      | exact spec_l22Text.mono _ _ _
      | exact LeO.none _
      | refine LeO.ite ?_ ?_
      | refine LeO.bind ?_ (fun _ => ?_)
set_option maxHeartbeats 8000000 in
set_option maxRecDepth 100000 in
theorem spec_PartsOf.calls (k : Nat) (a0 : ByteArray) (a1 : ByteArray) (r1 : List (S39)) (r2 : Bool) (w : World) (h : spec_PartsOf.f k a0 a1 = some (r1, r2)) :
    Calls Try.prog 4 #[.string a0, .string a1] w fun e w' => ∃ v0_ : Value, e = .returned (.tuple #[v0_, .bool r2]) ∧ Kd.R k39 39 w' w.heap.size (fun _ => True) v0_ r1 ∧ Below w.heap.size w w' := by
  have HB := Aside0.mk (Below.refl w.heap.size w)
  have H : ((spec_l22Form.f k a0).bind fun bt175 => (if bt175.2.2 = true then ((spec_l22Text.f k a1 500).bind fun t182 => (spec_PartsOf.j0 k a0 a1 (!t182))) else (spec_PartsOf.j0 k a0 a1 true))) = some (r1, r2) := h
  clear h
  replace H := Option.bind_eq_some_iff.mp H
  obtain ⟨⟨t175, t176, t177⟩, A30, H⟩ := H
  replace H : (if t177 = true then ((spec_l22Text.f k a1 500).bind fun t182 => (spec_PartsOf.j0 k a0 a1 (!t182))) else (spec_PartsOf.j0 k a0 a1 true)) = some (r1, r2) := H
  have A3 := Aside0.mk A30
  clear A30
  have HC4 := Aside0.mk H
  clear H
  go_enter Try.func4, Try.ntmps4
  go_upto_region 2 with (first | ((with_reducible refine gate_callee (f := 9) rfl ?_); refine goesL_ (some 13) rfl rfl Try.func9 (by kernel_rfl) rfl #[.string a0] rfl (by (try simp only [List.map_toArray, List.map_cons, List.map_nil]); first | done | rfl | (simp only [List.length_drop, List.length_take]; rfl)) ?_; (with_reducible refine (spec_l22Form.calls k a0 t175 t176 t177 _ A3.out).mono ?_); rintro e w5 ⟨v178, v180, rfl, ho0, ho1, hb⟩; refine ⟨_, rfl, ?_⟩; have n0_ := Aside0.mk (Kd.R_lower ho0 (below_size (by repeat (first | (with_reducible first | exact HB.out | apply below_alloc | apply pw_below_drewN | apply below_drew1) | exact HB.out)))); have n1_ := Aside0.mk (Kd.R_lower ho1 (below_size (by repeat (first | (with_reducible first | exact HB.out | apply below_alloc | apply pw_below_drewN | apply below_drew1) | exact HB.out)))); have n2_ := Aside0.mk (below_step (by repeat (first | (with_reducible first | exact HB.out | apply below_alloc | apply pw_below_drewN | apply below_drew1) | exact HB.out)) hb); clear HB; have HO179 := n0_; have HO181 := n1_; have HB := n2_; clear n0_ n1_ n2_; (try clear hb); (try clear hb2); (try clear hk); (try clear hi); (try clear ho0); (try clear ho1)))
  (try simp only [Act.put, List.setIfInBounds_toArray, List.set_cons_zero, List.set_cons_succ])
  go_cut [23] (fun v23 wc => ∃ (kq : Nat) (x23_3 : Bool), v23 = .bool x23_3 ∧ Aside0 (spec_PartsOf.j0 kq a0 a1 x23_3 = some (r1, r2)) ∧ Aside0 (kq ≤ k) ∧ Aside0 (Below w.heap.size w wc))
  case first =>
    have H := HC4.out
    clear HC4
    by_cases c6 : t177 = true
    · subst c6
      have H1 : ((spec_l22Text.f k a1 500).bind fun t182 => (spec_PartsOf.j0 k a0 a1 (!t182))) = some (r1, r2) := by rw [if_pos rfl] at H; exact H
      clear H
      have H := H1
      clear H1
      replace H := Option.bind_eq_some_iff.mp H
      obtain ⟨t182, A70, H⟩ := H
      replace H : (spec_PartsOf.j0 k a0 a1 (!t182)) = some (r1, r2) := H
      have A7 := Aside0.mk A70
      clear A70
      have H' := Aside0.mk H
      clear H
      go_wp2_with (first | (go_at_call 10; (with_reducible refine (spec_l22Text.calls k a1 500 t182 _ A7.out).mono ?_); rintro e w' ⟨rfl, ⟨nd, rfl⟩⟩))
      go_meet
      case rel => exact ⟨_, (!t182), (by first | rfl | (simp; done) | (simp [*]; done)), H', ⟨by first | omega | exact Nat.le_refl _⟩, ⟨by repeat (first | (with_reducible first | exact HB.out | apply below_alloc | apply pw_below_drewN | apply below_drew1) | exact HB.out)⟩⟩
    · replace c6 := Bool.eq_false_iff.mpr c6
      subst c6
      have H1 : (spec_PartsOf.j0 k a0 a1 true) = some (r1, r2) := by rw [if_neg (show ¬ (false = true) by decide)] at H; exact H
      clear H
      have H := H1
      clear H1
      have H' := Aside0.mk H
      clear H
      go_wp2
      go_meet
      case rel => exact ⟨_, (true), (by first | rfl | (simp; done) | (simp [*]; done)), H', ⟨by first | omega | exact Nat.le_refl _⟩, ⟨by repeat (first | (with_reducible first | exact HB.out | apply below_alloc | apply pw_below_drewN | apply below_drew1) | exact HB.out)⟩⟩
  case rest =>
    clear HC4
    try clear p2
    try clear c4
    try clear c6
    obtain ⟨kq, x23_3, rfl, HA, HJ3, HB⟩ := hcut
    cases kq with
    | zero => exact absurd HA.out (by simp [spec_PartsOf.j0])
    | succ kj3 =>
      have H := HA.out
      clear HA
      simp only [spec_PartsOf.j0] at H
      by_cases c8 : x23_3 = true
      · subst c8
        have H1 : (some (([] : List (S39)), false)) = some (r1, r2) := by rw [if_pos rfl] at H; exact H
        clear H
        have H := H1
        clear H1
        simp only [Option.some.injEq, Prod.mk.injEq] at H
        obtain ⟨rfl, rfl⟩ := H
        go_wp2
        go_ret2
        exact ⟨_, by first | rfl | (simp [bne]; done) | (simp [errW_none, errW_some] <;> rfl) | (simp [*, errW_none, errW_some] <;> rfl), by first | exact Kd.R_nil _ _ _ _ _ | exact Kd.N_nil _ _ _ _ _ | exact Kd.V_nil _ _ _ _ _ | exact Kd.Q_nil _ _ _ _ _ | exact Kd.S_nil _ _ _ _ _, by repeat (first | (with_reducible first | exact HB.out | apply below_alloc | apply pw_below_drewN | apply below_drew1) | exact HB.out)⟩
      · replace c8 := Bool.eq_false_iff.mpr c8
        subst c8
        have H1 : ((spec_l22Parts.f kj3 a0 a1).bind fun bt183 => (if bt183.2 = true then (some (bt183.1, true)) else (some (([] : List (S39)), false)))) = some (r1, r2) := by rw [if_neg (show ¬ (false = true) by decide)] at H; exact H
        clear H
        have H := H1
        clear H1
        replace H := Option.bind_eq_some_iff.mp H
        obtain ⟨⟨t183, t184⟩, A90, H⟩ := H
        replace H : (if t184 = true then (some (t183, true)) else (some (([] : List (S39)), false))) = some (r1, r2) := H
        have A9 := Aside0.mk A90
        clear A90
        by_cases c10 : t184 = true
        · subst c10
          have H1 : (some (t183, true)) = some (r1, r2) := by rw [if_pos rfl] at H; exact H
          clear H
          have H := H1
          clear H1
          simp only [Option.some.injEq, Prod.mk.injEq] at H
          obtain ⟨rfl, rfl⟩ := H
          go_wp2_with (first | ((with_reducible refine gate_callee (f := 11) rfl ?_); refine goesL_ (some 27) rfl rfl Try.func11 (by kernel_rfl) rfl #[.string a0, .string a1] rfl (by (try simp only [List.map_toArray, List.map_cons, List.map_nil]); first | done | rfl | (simp only [List.length_drop, List.length_take]; rfl)) ?_; (with_reducible refine (spec_l22Parts.calls kj3 a0 a1 t183 true _ A9.out).mono ?_); rintro e w11 ⟨v185, rfl, ho0, hb⟩; refine ⟨_, rfl, ?_⟩; have n0_ := Aside0.mk (Kd.R_lower ho0 (below_size (by repeat (first | (with_reducible first | exact HB.out | apply below_alloc | apply pw_below_drewN | apply below_drew1) | exact HB.out)))); have n1_ := Aside0.mk (below_step (by repeat (first | (with_reducible first | exact HB.out | apply below_alloc | apply pw_below_drewN | apply below_drew1) | exact HB.out)) hb); clear HB; have HO186 := n0_; have HB := n1_; clear n0_ n1_; (try clear hb); (try clear hb2); (try clear hk); (try clear hi); (try clear ho0)))
          go_ret2
          exact ⟨_, by first | rfl | (simp [bne]; done) | (simp [errW_none, errW_some] <;> rfl) | (simp [*, errW_none, errW_some] <;> rfl), by (with_reducible repeat (first | apply Kd.R_alloc | apply Kd.R_drewN | apply Kd.R_drew)); exact HO186.out, by repeat (first | (with_reducible first | exact HB.out | apply below_alloc | apply pw_below_drewN | apply below_drew1) | exact HB.out)⟩
        · replace c10 := Bool.eq_false_iff.mpr c10
          subst c10
          have H1 : (some (([] : List (S39)), false)) = some (r1, r2) := by rw [if_neg (show ¬ (false = true) by decide)] at H; exact H
          clear H
          have H := H1
          clear H1
          simp only [Option.some.injEq, Prod.mk.injEq] at H
          obtain ⟨rfl, rfl⟩ := H
          go_wp2_with (first | ((with_reducible refine gate_callee (f := 11) rfl ?_); refine goesL_ (some 27) rfl rfl Try.func11 (by kernel_rfl) rfl #[.string a0, .string a1] rfl (by (try simp only [List.map_toArray, List.map_cons, List.map_nil]); first | done | rfl | (simp only [List.length_drop, List.length_take]; rfl)) ?_; (with_reducible refine (spec_l22Parts.calls kj3 a0 a1 t183 false _ A9.out).mono ?_); rintro e w12 ⟨v185, rfl, ho0, hb⟩; refine ⟨_, rfl, ?_⟩; have n0_ := Aside0.mk (Kd.R_lower ho0 (below_size (by repeat (first | (with_reducible first | exact HB.out | apply below_alloc | apply pw_below_drewN | apply below_drew1) | exact HB.out)))); have n1_ := Aside0.mk (below_step (by repeat (first | (with_reducible first | exact HB.out | apply below_alloc | apply pw_below_drewN | apply below_drew1) | exact HB.out)) hb); clear HB; have HO186 := n0_; have HB := n1_; clear n0_ n1_; (try clear hb); (try clear hb2); (try clear hk); (try clear hi); (try clear ho0)))
          go_ret2
          exact ⟨_, by first | rfl | (simp [bne]; done) | (simp [errW_none, errW_some] <;> rfl) | (simp [*, errW_none, errW_some] <;> rfl), by first | exact Kd.R_nil _ _ _ _ _ | exact Kd.N_nil _ _ _ _ _ | exact Kd.V_nil _ _ _ _ _ | exact Kd.Q_nil _ _ _ _ _ | exact Kd.S_nil _ _ _ _ _, by repeat (first | (with_reducible first | exact HB.out | apply below_alloc | apply pw_below_drewN | apply below_drew1) | exact HB.out)⟩

-- NOT PRINTED: function 12 (impl_formOf)

-- NOT PRINTED: function 61 (bytealg_IndexByteString)

-- NOT PRINTED: function 46 (stringslite_IndexByte)

-- NOT PRINTED: function 47 (bytealg_IndexString)

end Go.Proofs.Ytpnldoegchjmmaa.PFnExactPartsOf
