-- Written by a program of this repo (myprint: the kit's print with functions given by hand).
import Derived.Test.YtgdekdcbfnghoaaPFnExactPairsOfx0
import Derived.Test.YtgdekdcbfnghoaaPFnExactPairsOfx2
import Derived.Test.YtgdekdcbfnghoaaPFnExactPairsOfx3
import Derived.Test.YtgdekdcbfnghoaaPFnExactPairsOfx4
import Derived.Test.YtgdekdcbfnghoaaPFnExactPairsOfx5
namespace Go.Proofs.Ytgdekdcbfnghoaa.PFnExactPairsOf
attribute [local go_sem] Go.Proofs.Ytgdekdcbfnghoaa.Cmp.str_gtr Go.Proofs.Ytgdekdcbfnghoaa.Cmp.str_geq Go.Proofs.Ytgdekdcbfnghoaa.Cmp.str_leq
open Go.RowKit Go.Proofs.YtgdekdcbfnghoaaW.PrintWords Go.Proofs.YtgdekdcbfnghoaaW.PrintLast Go.Proofs.YtgdekdcbfnghoaaW.PrintMore
attribute [local go_sem] max2_int min2_int max_two min_two max_three min_three max_four min_four   -- for this text's walks alone
set_option linter.unusedVariables false
set_option linter.unusedSimpArgs false

/-! ### spec_l22Pairs: function 10 -/
mutual
def spec_l22Pairs.l0 : Nat → List (S30) → List ByteArray → Int → Int → Option ((List (S30)))
  | 0, _, _, _, _ => none
  | k + 1, x3, x11, x12, x13 => if x13 < x12 then (if 0 ≤ x13 then (if x13 < (x11.length : Int) then ((spec_l2NameAt.f k (rdOf ByteArray.empty x11 x13) 0).bind fun t164 => (if t164 ≥ ((rdOf ByteArray.empty x11 x13).size : Int) then (spec_l22Pairs.j1 k x3 (rdOf ByteArray.empty x11 x13) t164 x11 x12 x13 true) else (if 0 ≤ t164 then (if t164 < ((rdOf ByteArray.empty x11 x13).size : Int) then (if (bt (rdOf ByteArray.empty x11 x13) t164) = 61 then (if t164 ≤ ((rdOf ByteArray.empty x11 x13).size : Int) then ((spec_l2Name.f k ((rdOf ByteArray.empty x11 x13).extract 0 (t164 : Int).toNat)).bind fun t165 => (if t165 = true then ((spec_l2Of.f k x3 ((rdOf ByteArray.empty x11 x13).extract 0 (t164 : Int).toNat)).bind fun t166 => (if t166.toList = ([] : List UInt8) then (spec_l22Pairs.j1 k x3 (rdOf ByteArray.empty x11 x13) t164 x11 x12 x13 (decide ((x3.length : Int) ≥ 20))) else (spec_l22Pairs.j1 k x3 (rdOf ByteArray.empty x11 x13) t164 x11 x12 x13 true))) else (spec_l22Pairs.j1 k x3 (rdOf ByteArray.empty x11 x13) t164 x11 x12 x13 true))) else (none)) else (spec_l22Pairs.j1 k x3 (rdOf ByteArray.empty x11 x13) t164 x11 x12 x13 true)) else (none)) else (none)))) else (none)) else (none)) else (some x3)
def spec_l22Pairs.j1 : Nat → List (S30) → ByteArray → Int → List ByteArray → Int → Int → Bool → Option ((List (S30)))
  | 0, _, _, _, _, _, _, _ => none
  | k + 1, x3, x5, x6, x11, x12, x13, x48 => if x48 = true then (spec_l22Pairs.l0 k x3 x11 x12 (wrap64 (x13 + 1))) else (if 0 ≤ (wrap64 (x6 + 1)) then (if (wrap64 (x6 + 1)) ≤ (x5.size : Int) then ((spec_l2Head.f (x5.extract ((wrap64 (x6 + 1)) : Int).toNat x5.size) (⟨#[34]⟩ : ByteArray)).bind fun t167 => (if t167 = true then ((spec_l2Unquote.f k (x5.extract ((wrap64 (x6 + 1)) : Int).toNat x5.size) 0).bind fun bt168 => (if bt168.2 = ((x5.extract ((wrap64 (x6 + 1)) : Int).toNat x5.size).size : Int) then (spec_l22Pairs.j2 k x3 x5 x6 bt168.1 x11 x12 x13) else (spec_l22Pairs.l0 k x3 x11 x12 (wrap64 (x13 + 1))))) else (spec_l22Pairs.j2 k x3 x5 x6 (x5.extract ((wrap64 (x6 + 1)) : Int).toNat x5.size) x11 x12 x13))) else (none)) else (none))
def spec_l22Pairs.j2 : Nat → List (S30) → ByteArray → Int → ByteArray → List ByteArray → Int → Int → Option ((List (S30)))
  | 0, _, _, _, _, _, _, _ => none
  | k + 1, x3, x5, x6, x7, x11, x12, x13 => (spec_l2Value.f k x7).bind fun t170 => (if t170 = true then (if 0 ≤ x6 then (if x6 ≤ (x5.size : Int) then ((spec_l2With.f k x3 (x5.extract 0 (x6 : Int).toNat) x7).bind fun t171 => (spec_l22Pairs.l0 k t171 x11 x12 (wrap64 (x13 + 1)))) else (none)) else (none)) else (spec_l22Pairs.l0 k x3 x11 x12 (wrap64 (x13 + 1))))
end
def spec_l22Pairs.f (k : Nat) (a0 : ByteArray) : Option ((List (S30))) := (spec_l22Pieces.f k a0).bind fun t160 => (spec_l22Pairs.l0 k ([] : List (S30)) t160 (t160.length : Int) 0)
theorem spec_l22Pairs.mono_l : ∀ k, (∀ y0 y1 y2 y3, LeO (spec_l22Pairs.l0 k y0 y1 y2 y3) (spec_l22Pairs.l0 (k + 1) y0 y1 y2 y3)) ∧ (∀ y0 y1 y2 y3 y4 y5 y6, LeO (spec_l22Pairs.j1 k y0 y1 y2 y3 y4 y5 y6) (spec_l22Pairs.j1 (k + 1) y0 y1 y2 y3 y4 y5 y6)) ∧ (∀ y0 y1 y2 y3 y4 y5 y6, LeO (spec_l22Pairs.j2 k y0 y1 y2 y3 y4 y5 y6) (spec_l22Pairs.j2 (k + 1) y0 y1 y2 y3 y4 y5 y6))
  | 0 => ⟨fun _ _ _ _ r h => by simp [spec_l22Pairs.l0] at h, fun _ _ _ _ _ _ _ r h => by simp [spec_l22Pairs.j1] at h, fun _ _ _ _ _ _ _ r h => by simp [spec_l22Pairs.j2] at h⟩
  | k + 1 => by
    obtain ⟨ih0, ih1, ih2⟩ := spec_l22Pairs.mono_l k
    refine ⟨?_, ?_, ?_⟩
    · intro y0 y1 y2 y3
      unfold spec_l22Pairs.l0
      repeat' first
      | (with_reducible exact ih0 _ _ _ _)
      | (with_reducible exact ih1 _ _ _ _ _ _ _)
      | (with_reducible exact ih2 _ _ _ _ _ _ _)
      | (with_reducible exact spec_l22Pieces.mono _ _)
      | (with_reducible exact spec_l2Name.mono _ _)
      | (with_reducible exact spec_l2NameAt.mono _ _ _)
      | (with_reducible exact spec_l2Of.mono _ _ _)
      | (with_reducible exact spec_l2Unquote.mono _ _ _)
      | (with_reducible exact spec_l2Value.mono _ _)
      | (with_reducible exact spec_l2With.mono _ _ _ _)
      | (with_reducible exact LeO.refl _)
      | (with_reducible exact LeO.none _)
      | (with_reducible refine LeO.ite ?_ ?_)
      | (with_reducible refine LeO.bind ?_ (fun _ => ?_))
      | exact ih0 _ _ _ _
      | exact ih1 _ _ _ _ _ _ _
      | exact ih2 _ _ _ _ _ _ _
      | exact spec_l22Pieces.mono _ _
      | exact spec_l2Name.mono _ _
      | exact spec_l2NameAt.mono _ _ _
      | exact spec_l2Of.mono _ _ _
      | exact spec_l2Unquote.mono _ _ _
      | exact spec_l2Value.mono _ _
      | exact spec_l2With.mono _ _ _ _
      | exact LeO.none _
      | refine LeO.ite ?_ ?_
      | refine LeO.bind ?_ (fun _ => ?_)
    · intro y0 y1 y2 y3 y4 y5 y6
      unfold spec_l22Pairs.j1
      repeat' first
      | (with_reducible exact ih0 _ _ _ _)
      | (with_reducible exact ih1 _ _ _ _ _ _ _)
      | (with_reducible exact ih2 _ _ _ _ _ _ _)
      | (with_reducible exact spec_l22Pieces.mono _ _)
      | (with_reducible exact spec_l2Name.mono _ _)
      | (with_reducible exact spec_l2NameAt.mono _ _ _)
      | (with_reducible exact spec_l2Of.mono _ _ _)
      | (with_reducible exact spec_l2Unquote.mono _ _ _)
      | (with_reducible exact spec_l2Value.mono _ _)
      | (with_reducible exact spec_l2With.mono _ _ _ _)
      | (with_reducible exact LeO.refl _)
      | (with_reducible exact LeO.none _)
      | (with_reducible refine LeO.ite ?_ ?_)
      | (with_reducible refine LeO.bind ?_ (fun _ => ?_))
      | exact ih0 _ _ _ _
      | exact ih1 _ _ _ _ _ _ _
      | exact ih2 _ _ _ _ _ _ _
      | exact spec_l22Pieces.mono _ _
      | exact spec_l2Name.mono _ _
      | exact spec_l2NameAt.mono _ _ _
      | exact spec_l2Of.mono _ _ _
      | exact spec_l2Unquote.mono _ _ _
      | exact spec_l2Value.mono _ _
      | exact spec_l2With.mono _ _ _ _
      | exact LeO.none _
      | refine LeO.ite ?_ ?_
      | refine LeO.bind ?_ (fun _ => ?_)
    · intro y0 y1 y2 y3 y4 y5 y6
      unfold spec_l22Pairs.j2
      repeat' first
      | (with_reducible exact ih0 _ _ _ _)
      | (with_reducible exact ih1 _ _ _ _ _ _ _)
      | (with_reducible exact ih2 _ _ _ _ _ _ _)
      | (with_reducible exact spec_l22Pieces.mono _ _)
      | (with_reducible exact spec_l2Name.mono _ _)
      | (with_reducible exact spec_l2NameAt.mono _ _ _)
      | (with_reducible exact spec_l2Of.mono _ _ _)
      | (with_reducible exact spec_l2Unquote.mono _ _ _)
      | (with_reducible exact spec_l2Value.mono _ _)
      | (with_reducible exact spec_l2With.mono _ _ _ _)
      | (with_reducible exact LeO.refl _)
      | (with_reducible exact LeO.none _)
      | (with_reducible refine LeO.ite ?_ ?_)
      | (with_reducible refine LeO.bind ?_ (fun _ => ?_))
      | exact ih0 _ _ _ _
      | exact ih1 _ _ _ _ _ _ _
      | exact ih2 _ _ _ _ _ _ _
      | exact spec_l22Pieces.mono _ _
      | exact spec_l2Name.mono _ _
      | exact spec_l2NameAt.mono _ _ _
      | exact spec_l2Of.mono _ _ _
      | exact spec_l2Unquote.mono _ _ _
      | exact spec_l2Value.mono _ _
      | exact spec_l2With.mono _ _ _ _
      | exact LeO.none _
      | refine LeO.ite ?_ ?_
      | refine LeO.bind ?_ (fun _ => ?_)
theorem spec_l22Pairs.mono : ∀ a0 k, LeO (spec_l22Pairs.f k a0) (spec_l22Pairs.f (k + 1) a0) := by
  intro a0 k
  obtain ⟨ih0, ih1, ih2⟩ := spec_l22Pairs.mono_l k
  unfold spec_l22Pairs.f
  repeat' first
      | (with_reducible exact ih0 _ _ _ _)
      | (with_reducible exact ih1 _ _ _ _ _ _ _)
      | (with_reducible exact ih2 _ _ _ _ _ _ _)
      | (with_reducible exact spec_l22Pieces.mono _ _)
      | (with_reducible exact spec_l2Name.mono _ _)
      | (with_reducible exact spec_l2NameAt.mono _ _ _)
      | (with_reducible exact spec_l2Of.mono _ _ _)
      | (with_reducible exact spec_l2Unquote.mono _ _ _)
      | (with_reducible exact spec_l2Value.mono _ _)
      | (with_reducible exact spec_l2With.mono _ _ _ _)
      | (with_reducible exact LeO.refl _)
      | (with_reducible exact LeO.none _)
      | (with_reducible refine LeO.ite ?_ ?_)
      | (with_reducible refine LeO.bind ?_ (fun _ => ?_))
      | exact ih0 _ _ _ _
      | exact ih1 _ _ _ _ _ _ _
      | exact ih2 _ _ _ _ _ _ _
      | exact spec_l22Pieces.mono _ _
      | exact spec_l2Name.mono _ _
      | exact spec_l2NameAt.mono _ _ _
      | exact spec_l2Of.mono _ _ _
      | exact spec_l2Unquote.mono _ _ _
      | exact spec_l2Value.mono _ _
      | exact spec_l2With.mono _ _ _ _
      | exact LeO.none _
      | refine LeO.ite ?_ ?_
      | refine LeO.bind ?_ (fun _ => ?_)
set_option maxHeartbeats 8000000 in
set_option maxRecDepth 100000 in
theorem spec_l22Pairs.calls (k : Nat) (a0 : ByteArray) (r : List (S30)) (w : World) (h : spec_l22Pairs.f k a0 = some r) :
    Calls Try.prog 10 #[.string a0] w fun e w' => ∃ v0_ : Value, e = .returned (v0_) ∧ Kd.R k30 30 w' w.heap.size (fun _ => True) v0_ r ∧ Below w.heap.size w w' := by
  have HB := Aside0.mk (Below.refl w.heap.size w)
  have H : ((spec_l22Pieces.f k a0).bind fun t160 => (spec_l22Pairs.l0 k ([] : List (S30)) t160 (t160.length : Int) 0)) = some r := h
  clear h
  replace H := Option.bind_eq_some_iff.mp H
  obtain ⟨t160, A20, H⟩ := H
  replace H : (spec_l22Pairs.l0 k ([] : List (S30)) t160 (t160.length : Int) 0) = some r := H
  have A2 := Aside0.mk A20
  clear A20
  have H' := Aside0.mk H
  clear H
  go_enter Try.func10, Try.ntmps10
  go_wp2_with (first | ((with_reducible refine gate_callee (f := 16) rfl ?_); refine goesL_ (some 11) rfl rfl Try.func16 (by kernel_rfl) rfl #[.string a0] rfl (by (try simp only [List.map_toArray, List.map_cons, List.map_nil]); first | done | rfl | (simp only [List.length_drop, List.length_take]; rfl)) ?_; (with_reducible refine (spec_l22Pieces.calls k a0 t160 _ A2.out).mono ?_); rintro e w3 ⟨v161, rfl, ho0, hb⟩; refine ⟨_, rfl, ?_⟩; have n0_ := Aside0.mk (Kd.R_lower ho0 (below_size (by repeat (first | (with_reducible first | exact HB.out | apply below_alloc | apply pw_below_drewN | apply below_drew1) | exact HB.out)))); have n1_ := Aside0.mk (below_step (by repeat (first | (with_reducible first | exact HB.out | apply below_alloc | apply pw_below_drewN | apply below_drew1) | exact HB.out)) hb); clear HB; have HO162 := n0_; have HB := n1_; clear n0_ n1_; (try clear hb); (try clear hb2); (try clear hk); (try clear hi); (try clear ho0); obtain ⟨Ao4, co4, eo4⟩ := Kd.R_slice HO162.out; subst eo4))
  go_loopg [3, 13] k (fun kq v3 v13 w' => ∃ (x3_1 : List (S30)) (x13_1 : Int), v13 = .int .i64 x13_1 ∧ Aside0 (spec_l22Pairs.l0 kq x3_1 t160 (t160.length : Int) x13_1 = some r) ∧ Aside0 (kq ≤ k) ∧ Aside0 (Kd.R k30 30 w' w.heap.size (fun _ => True) v3 x3_1) ∧ Aside0 (Kd.R Kd.string 9 w' w.heap.size (fun _ => True) (.slice Ao4 t160.length co4) t160) ∧ Aside0 (Below w.heap.size w w'))
  case atStart => exact ⟨(([] : List (S30))), (0), (by first | rfl | (simp; done) | (simp [*]; done)), H', ⟨Nat.le_refl _⟩, ⟨by first | exact Kd.R_nil _ _ _ _ _ | exact Kd.N_nil _ _ _ _ _ | exact Kd.V_nil _ _ _ _ _ | exact Kd.Q_nil _ _ _ _ _ | exact Kd.S_nil _ _ _ _ _⟩, ⟨by (with_reducible repeat (first | apply Kd.R_alloc | apply Kd.R_drewN | apply Kd.R_drew)); exact HO162.out⟩, ⟨by repeat (first | (with_reducible first | exact HB.out | apply below_alloc | apply pw_below_drewN | apply below_drew1) | exact HB.out)⟩⟩
  case round =>
    clear H'
    try clear c1
    try clear p2
    obtain ⟨x3_1, x13_1, rfl, HA, HK1, HO_3, HO_11, HB⟩ := hrel
    cases gk with
    | zero => exact absurd HA.out (by simp [spec_l22Pairs.l0])
    | succ k1 =>
      have H := HA.out
      clear HA
      simp only [spec_l22Pairs.l0] at H
      by_cases c5 : x13_1 < (t160.length : Int)
      · rw [if_pos c5] at H
        have c5b0 : decide (x13_1 < (t160.length : Int)) = true := decide_eq_true c5
        clear c5
        by_cases c6 : 0 ≤ x13_1
        · rw [if_pos c6] at H
          have c6b0 : decide (0 ≤ x13_1) = true := decide_eq_true c6
          clear c6
          by_cases c7 : x13_1 < (t160.length : Int)
          · rw [if_pos c7] at H
            have c7b0 : decide (x13_1 < (t160.length : Int)) = true := decide_eq_true c7
            clear c7
            replace H := Option.bind_eq_some_iff.mp H
            obtain ⟨t164, A80, H⟩ := H
            replace H : (if t164 ≥ ((rdOf ByteArray.empty t160 x13_1).size : Int) then (spec_l22Pairs.j1 k1 x3_1 (rdOf ByteArray.empty t160 x13_1) t164 t160 (t160.length : Int) x13_1 true) else (if 0 ≤ t164 then (if t164 < ((rdOf ByteArray.empty t160 x13_1).size : Int) then (if (bt (rdOf ByteArray.empty t160 x13_1) t164) = 61 then (if t164 ≤ ((rdOf ByteArray.empty t160 x13_1).size : Int) then ((spec_l2Name.f k1 ((rdOf ByteArray.empty t160 x13_1).extract 0 (t164 : Int).toNat)).bind fun t165 => (if t165 = true then ((spec_l2Of.f k1 x3_1 ((rdOf ByteArray.empty t160 x13_1).extract 0 (t164 : Int).toNat)).bind fun t166 => (if t166.toList = ([] : List UInt8) then (spec_l22Pairs.j1 k1 x3_1 (rdOf ByteArray.empty t160 x13_1) t164 t160 (t160.length : Int) x13_1 (decide ((x3_1.length : Int) ≥ 20))) else (spec_l22Pairs.j1 k1 x3_1 (rdOf ByteArray.empty t160 x13_1) t164 t160 (t160.length : Int) x13_1 true))) else (spec_l22Pairs.j1 k1 x3_1 (rdOf ByteArray.empty t160 x13_1) t164 t160 (t160.length : Int) x13_1 true))) else (none)) else (spec_l22Pairs.j1 k1 x3_1 (rdOf ByteArray.empty t160 x13_1) t164 t160 (t160.length : Int) x13_1 true)) else (none)) else (none))) = some r := H
            have A8 := Aside0.mk A80
            clear A80
            have HC9 := Aside0.mk H
            clear H
            have p163 : 0 ≤ (x13_1 : Int) := of_decide_eq_true (by first | (with_reducible assumption) | assumption)
            have q163 : x13_1 < (t160.length : Int) := of_decide_eq_true (by first | (with_reducible assumption) | assumption)
            obtain ⟨ad163, e163, hx163_0⟩ := Kd.at_string (Kd.R_reads' HO_11.out).2.2 x13_1 p163 q163
            cases e163
            replace p163 := eq_true p163
            replace q163 := eq_true q163
            go_upto_region 6 with (first | ((with_reducible refine gate_callee (f := 17) rfl ?_); refine goesL_ (some 18) rfl rfl Try.func17 (by kernel_rfl) rfl #[.string (rdOf ByteArray.empty t160 x13_1), .int .i64 0] rfl (by (try simp only [List.map_toArray, List.map_cons, List.map_nil]); first | done | rfl | (simp only [List.length_drop, List.length_take]; rfl)) ?_; (with_reducible refine (spec_l2NameAt.calls k1 (rdOf ByteArray.empty t160 x13_1) 0 t164 _ A8.out).mono ?_); rintro e w' ⟨rfl, ⟨nd, rfl⟩⟩; refine ⟨_, rfl, ?_⟩))
            (try simp only [Act.put, List.setIfInBounds_toArray, List.set_cons_zero, List.set_cons_succ])
            go_cut [48] (fun v48 wc => ∃ (kq : Nat) (x48_8 : Bool), v48 = .bool x48_8 ∧ Aside0 (spec_l22Pairs.j1 kq x3_1 (rdOf ByteArray.empty t160 x13_1) t164 t160 (t160.length : Int) x13_1 x48_8 = some r) ∧ Aside0 (kq ≤ k1) ∧ Aside0 (Kd.R k30 30 wc w.heap.size (fun _ => True) u3 x3_1) ∧ Aside0 (Kd.R Kd.string 9 wc w.heap.size (fun _ => True) (.slice (some ad163) t160.length co4) t160) ∧ Aside0 (Below w.heap.size w wc))
            case first =>
              have H := HC9.out
              clear HC9
              by_cases c10 : t164 ≥ ((rdOf ByteArray.empty t160 x13_1).size : Int)
              · rw [if_pos c10] at H
                have c10b0 : decide (((rdOf ByteArray.empty t160 x13_1).size : Int) ≤ t164) = true := decide_eq_true c10
                clear c10
                (first | rw [c10b0] | (simp only [i64_w, i32_w]; rw [c10b0]) | skip)
                have H' := Aside0.mk H
                clear H
                go_wp2
                go_meet
                case rel => exact ⟨_, (true), (by first | rfl | (simp; done) | (simp [*]; done)), H', ⟨by have := HK1.out; first | omega | exact Nat.le_refl _⟩, ⟨by (with_reducible repeat (first | apply Kd.R_alloc | apply Kd.R_drewN | apply Kd.R_drew)); exact HO_3.out⟩, ⟨by (with_reducible repeat (first | apply Kd.R_alloc | apply Kd.R_drewN | apply Kd.R_drew)); exact HO_11.out⟩, ⟨by repeat (first | (with_reducible first | exact HB.out | apply below_alloc | apply pw_below_drewN | apply below_drew1) | exact HB.out)⟩⟩
              · rw [if_neg c10] at H
                have c10b0 : decide (((rdOf ByteArray.empty t160 x13_1).size : Int) ≤ t164) = false := decide_eq_false c10
                clear c10
                (first | rw [c10b0] | (simp only [i64_w, i32_w]; rw [c10b0]) | skip)
                by_cases c11 : 0 ≤ t164
                · rw [if_pos c11] at H
                  have c11b0 : decide (0 ≤ t164) = true := decide_eq_true c11
                  clear c11
                  by_cases c12 : t164 < ((rdOf ByteArray.empty t160 x13_1).size : Int)
                  · rw [if_pos c12] at H
                    have c12b0 : decide (t164 < ((rdOf ByteArray.empty t160 x13_1).size : Int)) = true := decide_eq_true c12
                    clear c12
                    by_cases c14 : (bt (rdOf ByteArray.empty t160 x13_1) t164) = 61
                    · rw [if_pos c14] at H
                      have c14b0 : ((bt (rdOf ByteArray.empty t160 x13_1) t164) == 61) = true := beq_iff_eq.mpr c14
                      have c14b1 : ((bt (rdOf ByteArray.empty t160 x13_1) t164) != 61) = false := bne_eq_false_iff_eq.mpr c14
                      clear c14
                      have c15b0 := eq_true (of_decide_eq_true (by first | (with_reducible assumption) | assumption) : 0 ≤ t164)
                      by_cases c16 : t164 ≤ ((rdOf ByteArray.empty t160 x13_1).size : Int)
                      · rw [if_pos c16] at H
                        have c16b0 := eq_true c16
                        have c16b1 : decide (t164 ≤ ((rdOf ByteArray.empty t160 x13_1).size : Int)) = true := decide_eq_true c16
                        clear c16
                        replace H := Option.bind_eq_some_iff.mp H
                        obtain ⟨t165, A170, H⟩ := H
                        replace H : (if t165 = true then ((spec_l2Of.f k1 x3_1 ((rdOf ByteArray.empty t160 x13_1).extract 0 (t164 : Int).toNat)).bind fun t166 => (if t166.toList = ([] : List UInt8) then (spec_l22Pairs.j1 k1 x3_1 (rdOf ByteArray.empty t160 x13_1) t164 t160 (t160.length : Int) x13_1 (decide ((x3_1.length : Int) ≥ 20))) else (spec_l22Pairs.j1 k1 x3_1 (rdOf ByteArray.empty t160 x13_1) t164 t160 (t160.length : Int) x13_1 true))) else (spec_l22Pairs.j1 k1 x3_1 (rdOf ByteArray.empty t160 x13_1) t164 t160 (t160.length : Int) x13_1 true)) = some r := H
                        have A17 := Aside0.mk A170
                        clear A170
                        by_cases c18 : t165 = true
                        · subst c18
                          have H1 : ((spec_l2Of.f k1 x3_1 ((rdOf ByteArray.empty t160 x13_1).extract 0 (t164 : Int).toNat)).bind fun t166 => (if t166.toList = ([] : List UInt8) then (spec_l22Pairs.j1 k1 x3_1 (rdOf ByteArray.empty t160 x13_1) t164 t160 (t160.length : Int) x13_1 (decide ((x3_1.length : Int) ≥ 20))) else (spec_l22Pairs.j1 k1 x3_1 (rdOf ByteArray.empty t160 x13_1) t164 t160 (t160.length : Int) x13_1 true))) = some r := by rw [if_pos rfl] at H; exact H
                          clear H
                          have H := H1
                          clear H1
                          have c19b0 := eq_true (of_decide_eq_true (by first | (with_reducible assumption) | assumption) : 0 ≤ t164)
                          have c20b0 := eq_true (of_decide_eq_true (by first | (with_reducible assumption) | assumption) : t164 ≤ ((rdOf ByteArray.empty t160 x13_1).size : Int))
                          replace H := Option.bind_eq_some_iff.mp H
                          obtain ⟨t166, A210, H⟩ := H
                          replace H : (if t166.toList = ([] : List UInt8) then (spec_l22Pairs.j1 k1 x3_1 (rdOf ByteArray.empty t160 x13_1) t164 t160 (t160.length : Int) x13_1 (decide ((x3_1.length : Int) ≥ 20))) else (spec_l22Pairs.j1 k1 x3_1 (rdOf ByteArray.empty t160 x13_1) t164 t160 (t160.length : Int) x13_1 true)) = some r := H
                          have A21 := Aside0.mk A210
                          clear A210
                          by_cases c22 : t166.toList = ([] : List UInt8)
                          · rw [if_pos c22] at H
                            have c22b0 : (t166.toList == ([] : List UInt8)) = true := beq_iff_eq.mpr c22
                            have c22b1 : (t166.toList != ([] : List UInt8)) = false := bne_eq_false_iff_eq.mpr c22
                            clear c22
                            have H' := Aside0.mk H
                            clear H
                            have p13 : 0 ≤ (t164 : Int) := of_decide_eq_true (by first | (with_reducible assumption) | assumption)
                            have q13 : t164 < ((rdOf ByteArray.empty t160 x13_1).size : Int) := of_decide_eq_true (by first | (with_reducible assumption) | assumption)
                            have hx13 := bt_at (rdOf ByteArray.empty t160 x13_1) t164
                            replace p13 := eq_true p13
                            replace q13 := eq_true q13
                            go_wp2_with (first | (go_at_call 18; (with_reducible refine (spec_l2Name.calls k1 ((rdOf ByteArray.empty t160 x13_1).extract 0 (t164 : Int).toNat) true _ A17.out).mono ?_); rintro e w' ⟨rfl, ⟨nd, rfl⟩⟩; obtain ⟨Ao23, co23, eo23⟩ := Kd.R_slice HO_3.out; subst eo23) | (go_at_call 19; (with_reducible refine (spec_l2Of.calls k1 _ _ x3_1 ((rdOf ByteArray.empty t160 x13_1).extract 0 (t164 : Int).toNat) t166 _ ?side1 ?side2 A21.out).mono ?_); (case side1 => repeat (first | exact (Kd.R_reads' HO_3.out).2.2 | (with_reducible refine Kd.C_alloc ?_ _) | (with_reducible refine Kd.C_drewN ?_ _) | (with_reducible refine Kd.C_drew ?_))); (case side2 => exact (Kd.R_reads' HO_3.out).2.1); rintro e w24 ⟨rfl, hb⟩; have n0_ := Aside0.mk (Kd.R_below (by (with_reducible repeat (first | apply Kd.R_alloc | apply Kd.R_drewN | apply Kd.R_drew)); exact HO_3.out) hb); have n1_ := Aside0.mk (Kd.R_below (by (with_reducible repeat (first | apply Kd.R_alloc | apply Kd.R_drewN | apply Kd.R_drew)); exact HO_11.out) hb); have n2_ := Aside0.mk (below_step (by repeat (first | (with_reducible first | exact HB.out | apply below_alloc | apply pw_below_drewN | apply below_drew1) | exact HB.out)) hb); clear HO_3; clear HO_11; clear HB; have HO_3 := n0_; have HO_11 := n1_; have HB := n2_; clear n0_ n1_ n2_; (try clear hb); (try clear hb2); (try clear hk); (try clear hi)))
                            go_meet
                            case rel => exact ⟨_, (decide ((x3_1.length : Int) ≥ 20)), (by first | rfl | (simp; done) | (simp [*]; done)), H', ⟨by have := HK1.out; first | omega | exact Nat.le_refl _⟩, ⟨by (with_reducible repeat (first | apply Kd.R_alloc | apply Kd.R_drewN | apply Kd.R_drew)); exact HO_3.out⟩, ⟨by (with_reducible repeat (first | apply Kd.R_alloc | apply Kd.R_drewN | apply Kd.R_drew)); exact HO_11.out⟩, ⟨by repeat (first | (with_reducible first | exact HB.out | apply below_alloc | apply pw_below_drewN | apply below_drew1) | exact HB.out)⟩⟩
                          · rw [if_neg c22] at H
                            have c22b0 : (t166.toList == ([] : List UInt8)) = false := beq_eq_false_iff_ne.mpr c22
                            have c22b1 : (t166.toList != ([] : List UInt8)) = true := bne_iff_ne.mpr c22
                            have H' := Aside0.mk H
                            clear H
                            have p13 : 0 ≤ (t164 : Int) := of_decide_eq_true (by first | (with_reducible assumption) | assumption)
                            have q13 : t164 < ((rdOf ByteArray.empty t160 x13_1).size : Int) := of_decide_eq_true (by first | (with_reducible assumption) | assumption)
                            have hx13 := bt_at (rdOf ByteArray.empty t160 x13_1) t164
                            replace p13 := eq_true p13
                            replace q13 := eq_true q13
                            go_wp2_with (first | (go_at_call 18; (with_reducible refine (spec_l2Name.calls k1 ((rdOf ByteArray.empty t160 x13_1).extract 0 (t164 : Int).toNat) true _ A17.out).mono ?_); rintro e w' ⟨rfl, ⟨nd, rfl⟩⟩; obtain ⟨Ao25, co25, eo25⟩ := Kd.R_slice HO_3.out; subst eo25) | (go_at_call 19; (with_reducible refine (spec_l2Of.calls k1 _ _ x3_1 ((rdOf ByteArray.empty t160 x13_1).extract 0 (t164 : Int).toNat) t166 _ ?side1 ?side2 A21.out).mono ?_); (case side1 => repeat (first | exact (Kd.R_reads' HO_3.out).2.2 | (with_reducible refine Kd.C_alloc ?_ _) | (with_reducible refine Kd.C_drewN ?_ _) | (with_reducible refine Kd.C_drew ?_))); (case side2 => exact (Kd.R_reads' HO_3.out).2.1); rintro e w26 ⟨rfl, hb⟩; have n0_ := Aside0.mk (Kd.R_below (by (with_reducible repeat (first | apply Kd.R_alloc | apply Kd.R_drewN | apply Kd.R_drew)); exact HO_3.out) hb); have n1_ := Aside0.mk (Kd.R_below (by (with_reducible repeat (first | apply Kd.R_alloc | apply Kd.R_drewN | apply Kd.R_drew)); exact HO_11.out) hb); have n2_ := Aside0.mk (below_step (by repeat (first | (with_reducible first | exact HB.out | apply below_alloc | apply pw_below_drewN | apply below_drew1) | exact HB.out)) hb); clear HO_3; clear HO_11; clear HB; have HO_3 := n0_; have HO_11 := n1_; have HB := n2_; clear n0_ n1_ n2_; (try clear hb); (try clear hb2); (try clear hk); (try clear hi)))
                            go_meet
                            case rel => exact ⟨_, (true), (by first | rfl | (simp; done) | (simp [*]; done)), H', ⟨by have := HK1.out; first | omega | exact Nat.le_refl _⟩, ⟨by (with_reducible repeat (first | apply Kd.R_alloc | apply Kd.R_drewN | apply Kd.R_drew)); exact HO_3.out⟩, ⟨by (with_reducible repeat (first | apply Kd.R_alloc | apply Kd.R_drewN | apply Kd.R_drew)); exact HO_11.out⟩, ⟨by repeat (first | (with_reducible first | exact HB.out | apply below_alloc | apply pw_below_drewN | apply below_drew1) | exact HB.out)⟩⟩
                        · replace c18 := Bool.eq_false_iff.mpr c18
                          subst c18
                          have H1 : (spec_l22Pairs.j1 k1 x3_1 (rdOf ByteArray.empty t160 x13_1) t164 t160 (t160.length : Int) x13_1 true) = some r := by rw [if_neg (show ¬ (false = true) by decide)] at H; exact H
                          clear H
                          have H := H1
                          clear H1
                          have H' := Aside0.mk H
                          clear H
                          have p13 : 0 ≤ (t164 : Int) := of_decide_eq_true (by first | (with_reducible assumption) | assumption)
                          have q13 : t164 < ((rdOf ByteArray.empty t160 x13_1).size : Int) := of_decide_eq_true (by first | (with_reducible assumption) | assumption)
                          have hx13 := bt_at (rdOf ByteArray.empty t160 x13_1) t164
                          replace p13 := eq_true p13
                          replace q13 := eq_true q13
                          go_wp2_with (first | (go_at_call 18; (with_reducible refine (spec_l2Name.calls k1 ((rdOf ByteArray.empty t160 x13_1).extract 0 (t164 : Int).toNat) false _ A17.out).mono ?_); rintro e w' ⟨rfl, ⟨nd, rfl⟩⟩))
                          go_meet
                          case rel => exact ⟨_, (true), (by first | rfl | (simp; done) | (simp [*]; done)), H', ⟨by have := HK1.out; first | omega | exact Nat.le_refl _⟩, ⟨by (with_reducible repeat (first | apply Kd.R_alloc | apply Kd.R_drewN | apply Kd.R_drew)); exact HO_3.out⟩, ⟨by (with_reducible repeat (first | apply Kd.R_alloc | apply Kd.R_drewN | apply Kd.R_drew)); exact HO_11.out⟩, ⟨by repeat (first | (with_reducible first | exact HB.out | apply below_alloc | apply pw_below_drewN | apply below_drew1) | exact HB.out)⟩⟩
                      · rw [if_neg c16] at H
                        exact absurd H (by simp)
                    · rw [if_neg c14] at H
                      have c14b0 : ((bt (rdOf ByteArray.empty t160 x13_1) t164) == 61) = false := beq_eq_false_iff_ne.mpr c14
                      have c14b1 : ((bt (rdOf ByteArray.empty t160 x13_1) t164) != 61) = true := bne_iff_ne.mpr c14
                      have H' := Aside0.mk H
                      clear H
                      have p13 : 0 ≤ (t164 : Int) := of_decide_eq_true (by first | (with_reducible assumption) | assumption)
                      have q13 : t164 < ((rdOf ByteArray.empty t160 x13_1).size : Int) := of_decide_eq_true (by first | (with_reducible assumption) | assumption)
                      have hx13 := bt_at (rdOf ByteArray.empty t160 x13_1) t164
                      replace p13 := eq_true p13
                      replace q13 := eq_true q13
                      go_wp2
                      go_meet
                      case rel => exact ⟨_, (true), (by first | rfl | (simp; done) | (simp [*]; done)), H', ⟨by have := HK1.out; first | omega | exact Nat.le_refl _⟩, ⟨by (with_reducible repeat (first | apply Kd.R_alloc | apply Kd.R_drewN | apply Kd.R_drew)); exact HO_3.out⟩, ⟨by (with_reducible repeat (first | apply Kd.R_alloc | apply Kd.R_drewN | apply Kd.R_drew)); exact HO_11.out⟩, ⟨by repeat (first | (with_reducible first | exact HB.out | apply below_alloc | apply pw_below_drewN | apply below_drew1) | exact HB.out)⟩⟩
                  · rw [if_neg c12] at H
                    exact absurd H (by simp)
                · rw [if_neg c11] at H
                  exact absurd H (by simp)
            case rest =>
              clear HC9
              try clear c1
              try clear p1
              try clear q1
              try clear hx1
              try clear c2
              try clear p2
              try clear c5
              try clear c5b0
              try clear c6
              try clear c6b0
              try clear c7
              try clear c7b0
              try clear c10
              try clear c10b0
              try clear c11
              try clear c11b0
              try clear c12
              try clear c12b0
              try clear p13
              try clear q13
              try clear hx13
              try clear c14
              try clear c14b0
              try clear c14b1
              try clear c15
              try clear c15b0
              try clear c16
              try clear c16b0
              try clear c16b1
              try clear p16
              try clear q16
              try clear hx16
              try clear c17
              try clear c18
              try clear c19
              try clear c19b0
              try clear c20
              try clear c20b0
              try clear c22
              try clear c22b0
              try clear c22b1
              try clear hx163_0
              try clear p13
              try clear p163
              try clear p2
              try clear q13
              try clear q163
              obtain ⟨kq, x48_8, rfl, HA, HJ8, HO_3, HO_11, HB⟩ := hcut
              cases kq with
              | zero => exact absurd HA.out (by simp [spec_l22Pairs.j1])
              | succ kj8 =>
                have H := HA.out
                clear HA
                simp only [spec_l22Pairs.j1] at H
                by_cases c27 : x48_8 = true
                · subst c27
                  have H1 : (spec_l22Pairs.l0 kj8 x3_1 t160 (t160.length : Int) (wrap64 (x13_1 + 1))) = some r := by rw [if_pos rfl] at H; exact H
                  clear H
                  have H := H1
                  clear H1
                  have H' := Aside0.mk H
                  clear H
                  go_wp2
                  go_roundg kj8
                  case measure => have := HK1.out; have := HJ8.out; omega
                  case rel => exact ⟨(x3_1), (wrap64 (x13_1 + 1)), (by first | rfl | (simp; done) | (simp [*]; done)), H', ⟨by have := HK1.out; have := HJ8.out; omega⟩, ⟨by (with_reducible repeat (first | apply Kd.R_alloc | apply Kd.R_drewN | apply Kd.R_drew)); exact HO_3.out⟩, ⟨by (with_reducible repeat (first | apply Kd.R_alloc | apply Kd.R_drewN | apply Kd.R_drew)); exact HO_11.out⟩, ⟨by repeat (first | (with_reducible first | exact HB.out | apply below_alloc | apply pw_below_drewN | apply below_drew1) | exact HB.out)⟩⟩
                · replace c27 := Bool.eq_false_iff.mpr c27
                  subst c27
                  have H1 : (if 0 ≤ (wrap64 (t164 + 1)) then (if (wrap64 (t164 + 1)) ≤ ((rdOf ByteArray.empty t160 x13_1).size : Int) then ((spec_l2Head.f ((rdOf ByteArray.empty t160 x13_1).extract ((wrap64 (t164 + 1)) : Int).toNat (rdOf ByteArray.empty t160 x13_1).size) (⟨#[34]⟩ : ByteArray)).bind fun t167 => (if t167 = true then ((spec_l2Unquote.f kj8 ((rdOf ByteArray.empty t160 x13_1).extract ((wrap64 (t164 + 1)) : Int).toNat (rdOf ByteArray.empty t160 x13_1).size) 0).bind fun bt168 => (if bt168.2 = (((rdOf ByteArray.empty t160 x13_1).extract ((wrap64 (t164 + 1)) : Int).toNat (rdOf ByteArray.empty t160 x13_1).size).size : Int) then (spec_l22Pairs.j2 kj8 x3_1 (rdOf ByteArray.empty t160 x13_1) t164 bt168.1 t160 (t160.length : Int) x13_1) else (spec_l22Pairs.l0 kj8 x3_1 t160 (t160.length : Int) (wrap64 (x13_1 + 1))))) else (spec_l22Pairs.j2 kj8 x3_1 (rdOf ByteArray.empty t160 x13_1) t164 ((rdOf ByteArray.empty t160 x13_1).extract ((wrap64 (t164 + 1)) : Int).toNat (rdOf ByteArray.empty t160 x13_1).size) t160 (t160.length : Int) x13_1))) else (none)) else (none)) = some r := by rw [if_neg (show ¬ (false = true) by decide)] at H; exact H
                  clear H
                  have H := H1
                  clear H1
                  obtain ⟨ji28, hji28⟩ : ∃ j_ : Int, (wrap64 (t164 + 1)) = j_ := ⟨_, rfl⟩
                  replace H : (if 0 ≤ (ji28) then (if (ji28) ≤ ((rdOf ByteArray.empty t160 x13_1).size : Int) then ((spec_l2Head.f ((rdOf ByteArray.empty t160 x13_1).extract ((ji28) : Int).toNat (rdOf ByteArray.empty t160 x13_1).size) (⟨#[34]⟩ : ByteArray)).bind fun t167 => (if t167 = true then ((spec_l2Unquote.f kj8 ((rdOf ByteArray.empty t160 x13_1).extract ((ji28) : Int).toNat (rdOf ByteArray.empty t160 x13_1).size) 0).bind fun bt168 => (if bt168.2 = (((rdOf ByteArray.empty t160 x13_1).extract ((ji28) : Int).toNat (rdOf ByteArray.empty t160 x13_1).size).size : Int) then (spec_l22Pairs.j2 kj8 x3_1 (rdOf ByteArray.empty t160 x13_1) t164 bt168.1 t160 (t160.length : Int) x13_1) else (spec_l22Pairs.l0 kj8 x3_1 t160 (t160.length : Int) (wrap64 (x13_1 + 1))))) else (spec_l22Pairs.j2 kj8 x3_1 (rdOf ByteArray.empty t160 x13_1) t164 ((rdOf ByteArray.empty t160 x13_1).extract ((ji28) : Int).toNat (rdOf ByteArray.empty t160 x13_1).size) t160 (t160.length : Int) x13_1))) else (none)) else (none)) = some r := by first | (rw [hji28] at H; exact H) | (simp only [hji28] at H ⊢; exact H)
                  have hji28w : (IntKind.i64.wrap (t164 + 1)) = ji28 := (i64_w _).trans hji28
                  by_cases c29 : 0 ≤ (ji28)
                  · rw [if_pos c29] at H
                    have c29b0 := eq_true c29
                    have c29b1 : decide (0 ≤ (ji28)) = true := decide_eq_true c29
                    clear c29
                    by_cases c30 : (ji28) ≤ ((rdOf ByteArray.empty t160 x13_1).size : Int)
                    · rw [if_pos c30] at H
                      have c30b0 := eq_true c30
                      have c30b1 : decide ((ji28) ≤ ((rdOf ByteArray.empty t160 x13_1).size : Int)) = true := decide_eq_true c30
                      clear c30
                      replace H := Option.bind_eq_some_iff.mp H
                      obtain ⟨t167, A310, H⟩ := H
                      replace H : (if t167 = true then ((spec_l2Unquote.f kj8 ((rdOf ByteArray.empty t160 x13_1).extract ((ji28) : Int).toNat (rdOf ByteArray.empty t160 x13_1).size) 0).bind fun bt168 => (if bt168.2 = (((rdOf ByteArray.empty t160 x13_1).extract ((ji28) : Int).toNat (rdOf ByteArray.empty t160 x13_1).size).size : Int) then (spec_l22Pairs.j2 kj8 x3_1 (rdOf ByteArray.empty t160 x13_1) t164 bt168.1 t160 (t160.length : Int) x13_1) else (spec_l22Pairs.l0 kj8 x3_1 t160 (t160.length : Int) (wrap64 (x13_1 + 1))))) else (spec_l22Pairs.j2 kj8 x3_1 (rdOf ByteArray.empty t160 x13_1) t164 ((rdOf ByteArray.empty t160 x13_1).extract ((ji28) : Int).toNat (rdOf ByteArray.empty t160 x13_1).size) t160 (t160.length : Int) x13_1)) = some r := H
                      have A31 := Aside0.mk A310
                      clear A310
                      have HC32 := Aside0.mk H
                      clear H
                      go_upto_if 54 with (first | ((with_reducible refine gate_callee (f := 20) rfl ?_); refine goesL_ (some 54) rfl rfl Try.func20 (by kernel_rfl) rfl #[.string ((rdOf ByteArray.empty t160 x13_1).extract ((ji28) : Int).toNat (rdOf ByteArray.empty t160 x13_1).size), .string (⟨#[34]⟩ : ByteArray)] rfl (by (try simp only [List.map_toArray, List.map_cons, List.map_nil]); first | done | (simp only [hji28]; rfl) | rfl | (simp only [List.length_drop, List.length_take]; rfl)) ?_; (with_reducible refine (spec_l2Head.calls ((rdOf ByteArray.empty t160 x13_1).extract ((ji28) : Int).toNat (rdOf ByteArray.empty t160 x13_1).size) (⟨#[34]⟩ : ByteArray) t167 _ A31.out).mono ?_); rintro e w' ⟨rfl, ⟨nd, rfl⟩⟩; refine ⟨_, rfl, ?_⟩))
                      (try simp only [Act.put, List.setIfInBounds_toArray, List.set_cons_zero, List.set_cons_succ])
                      go_cut [7] (fun v7 wc => ∃ (kq : Nat) (x7_31 : ByteArray), v7 = .string x7_31 ∧ Aside0 (spec_l22Pairs.j2 kq x3_1 (rdOf ByteArray.empty t160 x13_1) t164 x7_31 t160 (t160.length : Int) x13_1 = some r) ∧ Aside0 (kq ≤ kj8) ∧ Aside0 (Kd.R k30 30 wc w.heap.size (fun _ => True) u3 x3_1) ∧ Aside0 (Kd.R Kd.string 9 wc w.heap.size (fun _ => True) (.slice (some ad163) t160.length co4) t160) ∧ Aside0 (Below w.heap.size w wc))
                      case first =>
                        have H := HC32.out
                        clear HC32
                        by_cases c33 : t167 = true
                        · subst c33
                          have H1 : ((spec_l2Unquote.f kj8 ((rdOf ByteArray.empty t160 x13_1).extract ((ji28) : Int).toNat (rdOf ByteArray.empty t160 x13_1).size) 0).bind fun bt168 => (if bt168.2 = (((rdOf ByteArray.empty t160 x13_1).extract ((ji28) : Int).toNat (rdOf ByteArray.empty t160 x13_1).size).size : Int) then (spec_l22Pairs.j2 kj8 x3_1 (rdOf ByteArray.empty t160 x13_1) t164 bt168.1 t160 (t160.length : Int) x13_1) else (spec_l22Pairs.l0 kj8 x3_1 t160 (t160.length : Int) (wrap64 (x13_1 + 1))))) = some r := by rw [if_pos rfl] at H; exact H
                          clear H
                          have H := H1
                          clear H1
                          replace H := Option.bind_eq_some_iff.mp H
                          obtain ⟨⟨t168, t169⟩, A340, H⟩ := H
                          replace H : (if t169 = (((rdOf ByteArray.empty t160 x13_1).extract ((ji28) : Int).toNat (rdOf ByteArray.empty t160 x13_1).size).size : Int) then (spec_l22Pairs.j2 kj8 x3_1 (rdOf ByteArray.empty t160 x13_1) t164 t168 t160 (t160.length : Int) x13_1) else (spec_l22Pairs.l0 kj8 x3_1 t160 (t160.length : Int) (wrap64 (x13_1 + 1)))) = some r := H
                          have A34 := Aside0.mk A340
                          clear A340
                          by_cases c35 : t169 = (((rdOf ByteArray.empty t160 x13_1).extract ((ji28) : Int).toNat (rdOf ByteArray.empty t160 x13_1).size).size : Int)
                          · rw [if_pos c35] at H
                            have c35b0 : (t169 == (((rdOf ByteArray.empty t160 x13_1).extract ((ji28) : Int).toNat (rdOf ByteArray.empty t160 x13_1).size).size : Int)) = true := beq_iff_eq.mpr c35
                            have c35b1 : (t169 != (((rdOf ByteArray.empty t160 x13_1).extract ((ji28) : Int).toNat (rdOf ByteArray.empty t160 x13_1).size).size : Int)) = false := bne_eq_false_iff_eq.mpr c35
                            have c35b2 := c35b0; have c35b3 := c35b1; simp only [ByteArray.size_extract, Nat.min_self] at c35b2 c35b3
                            clear c35
                            (first | rw [c35b0] | (simp only [i64_w, i32_w]; rw [c35b0]) | skip)
                            have H' := Aside0.mk H
                            clear H
                            go_wp2_with (first | ((with_reducible refine gate_callee (f := 21) rfl ?_); refine goesL_ (some 57) rfl rfl Try.func21 (by kernel_rfl) rfl #[.string ((rdOf ByteArray.empty t160 x13_1).extract ((ji28) : Int).toNat (rdOf ByteArray.empty t160 x13_1).size), .int .i64 0] rfl (by (try simp only [List.map_toArray, List.map_cons, List.map_nil]); first | done | (simp only [hji28]; rfl) | rfl | (simp only [List.length_drop, List.length_take]; rfl)) ?_; (with_reducible refine (spec_l2Unquote.calls kj8 ((rdOf ByteArray.empty t160 x13_1).extract ((ji28) : Int).toNat (rdOf ByteArray.empty t160 x13_1).size) 0 t168 t169 _ A34.out).mono ?_); rintro e w36 ⟨rfl, hb⟩; refine ⟨_, rfl, ?_⟩; have n0_ := Aside0.mk (Kd.R_below (by (with_reducible repeat (first | apply Kd.R_alloc | apply Kd.R_drewN | apply Kd.R_drew)); exact HO_3.out) hb); have n1_ := Aside0.mk (Kd.R_below (by (with_reducible repeat (first | apply Kd.R_alloc | apply Kd.R_drewN | apply Kd.R_drew)); exact HO_11.out) hb); have n2_ := Aside0.mk (below_step (by repeat (first | (with_reducible first | exact HB.out | apply below_alloc | apply pw_below_drewN | apply below_drew1) | exact HB.out)) hb); clear HO_3; clear HO_11; clear HB; have HO_3 := n0_; have HO_11 := n1_; have HB := n2_; clear n0_ n1_ n2_; (try clear hb); (try clear hb2); (try clear hk); (try clear hi)))
                            go_meet
                            case rel => exact ⟨_, (t168), (by first | rfl | (simp; done) | (simp [*]; done)), H', ⟨by have := HK1.out; have := HJ8.out; first | omega | exact Nat.le_refl _⟩, ⟨by (with_reducible repeat (first | apply Kd.R_alloc | apply Kd.R_drewN | apply Kd.R_drew)); exact HO_3.out⟩, ⟨by (with_reducible repeat (first | apply Kd.R_alloc | apply Kd.R_drewN | apply Kd.R_drew)); exact HO_11.out⟩, ⟨by repeat (first | (with_reducible first | exact HB.out | apply below_alloc | apply pw_below_drewN | apply below_drew1) | exact HB.out)⟩⟩
                          · rw [if_neg c35] at H
                            have c35b0 : (t169 == (((rdOf ByteArray.empty t160 x13_1).extract ((ji28) : Int).toNat (rdOf ByteArray.empty t160 x13_1).size).size : Int)) = false := beq_eq_false_iff_ne.mpr c35
                            have c35b1 : (t169 != (((rdOf ByteArray.empty t160 x13_1).extract ((ji28) : Int).toNat (rdOf ByteArray.empty t160 x13_1).size).size : Int)) = true := bne_iff_ne.mpr c35
                            have c35b2 := c35b0; have c35b3 := c35b1; simp only [ByteArray.size_extract, Nat.min_self] at c35b2 c35b3
                            (first | rw [c35b0] | (simp only [i64_w, i32_w]; rw [c35b0]) | skip)
                            have H' := Aside0.mk H
                            clear H
                            go_wp2_with (first | ((with_reducible refine gate_callee (f := 21) rfl ?_); refine goesL_ (some 57) rfl rfl Try.func21 (by kernel_rfl) rfl #[.string ((rdOf ByteArray.empty t160 x13_1).extract ((ji28) : Int).toNat (rdOf ByteArray.empty t160 x13_1).size), .int .i64 0] rfl (by (try simp only [List.map_toArray, List.map_cons, List.map_nil]); first | done | (simp only [hji28]; rfl) | rfl | (simp only [List.length_drop, List.length_take]; rfl)) ?_; (with_reducible refine (spec_l2Unquote.calls kj8 ((rdOf ByteArray.empty t160 x13_1).extract ((ji28) : Int).toNat (rdOf ByteArray.empty t160 x13_1).size) 0 t168 t169 _ A34.out).mono ?_); rintro e w37 ⟨rfl, hb⟩; refine ⟨_, rfl, ?_⟩; have n0_ := Aside0.mk (Kd.R_below (by (with_reducible repeat (first | apply Kd.R_alloc | apply Kd.R_drewN | apply Kd.R_drew)); exact HO_3.out) hb); have n1_ := Aside0.mk (Kd.R_below (by (with_reducible repeat (first | apply Kd.R_alloc | apply Kd.R_drewN | apply Kd.R_drew)); exact HO_11.out) hb); have n2_ := Aside0.mk (below_step (by repeat (first | (with_reducible first | exact HB.out | apply below_alloc | apply pw_below_drewN | apply below_drew1) | exact HB.out)) hb); clear HO_3; clear HO_11; clear HB; have HO_3 := n0_; have HO_11 := n1_; have HB := n2_; clear n0_ n1_ n2_; (try clear hb); (try clear hb2); (try clear hk); (try clear hi)))
                            go_roundg kj8
                            case measure => have := HK1.out; have := HJ8.out; omega
                            case rel => exact ⟨(x3_1), (wrap64 (x13_1 + 1)), (by first | rfl | (simp; done) | (simp [*]; done)), H', ⟨by have := HK1.out; have := HJ8.out; omega⟩, ⟨by (with_reducible repeat (first | apply Kd.R_alloc | apply Kd.R_drewN | apply Kd.R_drew)); exact HO_3.out⟩, ⟨by (with_reducible repeat (first | apply Kd.R_alloc | apply Kd.R_drewN | apply Kd.R_drew)); exact HO_11.out⟩, ⟨by repeat (first | (with_reducible first | exact HB.out | apply below_alloc | apply pw_below_drewN | apply below_drew1) | exact HB.out)⟩⟩
                        · replace c33 := Bool.eq_false_iff.mpr c33
                          subst c33
                          have H1 : (spec_l22Pairs.j2 kj8 x3_1 (rdOf ByteArray.empty t160 x13_1) t164 ((rdOf ByteArray.empty t160 x13_1).extract ((ji28) : Int).toNat (rdOf ByteArray.empty t160 x13_1).size) t160 (t160.length : Int) x13_1) = some r := by rw [if_neg (show ¬ (false = true) by decide)] at H; exact H
                          clear H
                          have H := H1
                          clear H1
                          have H' := Aside0.mk H
                          clear H
                          go_wp2
                          go_meet
                          case rel => exact ⟨_, ((rdOf ByteArray.empty t160 x13_1).extract ((ji28) : Int).toNat (rdOf ByteArray.empty t160 x13_1).size), (by first | rfl | (simp; done) | (simp only [← hji28] <;> (first | rfl | simp)) | (simp [*]; done)), H', ⟨by have := HK1.out; have := HJ8.out; first | omega | exact Nat.le_refl _⟩, ⟨by (with_reducible repeat (first | apply Kd.R_alloc | apply Kd.R_drewN | apply Kd.R_drew)); exact HO_3.out⟩, ⟨by (with_reducible repeat (first | apply Kd.R_alloc | apply Kd.R_drewN | apply Kd.R_drew)); exact HO_11.out⟩, ⟨by repeat (first | (with_reducible first | exact HB.out | apply below_alloc | apply pw_below_drewN | apply below_drew1) | exact HB.out)⟩⟩
                      case rest =>
                        clear HC32
                        try clear c1
                        try clear p1
                        try clear q1
                        try clear hx1
                        try clear c2
                        try clear p2
                        try clear c3
                        try clear c5
                        try clear c5b0
                        try clear c6
                        try clear c6b0
                        try clear p6
                        try clear c7
                        try clear c7b0
                        try clear c10
                        try clear c10b0
                        try clear c11
                        try clear c11b0
                        try clear c12
                        try clear c12b0
                        try clear p13
                        try clear q13
                        try clear hx13
                        try clear c14
                        try clear c14b0
                        try clear c14b1
                        try clear c15
                        try clear c15b0
                        try clear c16
                        try clear c16b0
                        try clear c16b1
                        try clear p16
                        try clear q16
                        try clear hx16
                        try clear c17
                        try clear c18
                        try clear c19
                        try clear c19b0
                        try clear c20
                        try clear c20b0
                        try clear c21
                        try clear c22
                        try clear c22b0
                        try clear c22b1
                        try clear c27
                        try clear c29
                        try clear c29b0
                        try clear c29b1
                        try clear c30
                        try clear c30b0
                        try clear c30b1
                        try clear c33
                        try clear c35
                        try clear c35b0
                        try clear c35b1
                        try clear hx163_0
                        try clear p1
                        try clear p13
                        try clear p16
                        try clear p163
                        try clear p2
                        try clear q1
                        try clear q13
                        try clear q16
                        try clear q163
                        obtain ⟨kq, x7_31, rfl, HA, HJ31, HO_3, HO_11, HB⟩ := hcut
                        cases kq with
                        | zero => exact absurd HA.out (by simp [spec_l22Pairs.j2])
                        | succ kj31 =>
                          have H := HA.out
                          clear HA
                          simp only [spec_l22Pairs.j2] at H
                          replace H := Option.bind_eq_some_iff.mp H
                          obtain ⟨t170, A380, H⟩ := H
                          replace H : (if t170 = true then (if 0 ≤ t164 then (if t164 ≤ ((rdOf ByteArray.empty t160 x13_1).size : Int) then ((spec_l2With.f kj31 x3_1 ((rdOf ByteArray.empty t160 x13_1).extract 0 (t164 : Int).toNat) x7_31).bind fun t171 => (spec_l22Pairs.l0 kj31 t171 t160 (t160.length : Int) (wrap64 (x13_1 + 1)))) else (none)) else (none)) else (spec_l22Pairs.l0 kj31 x3_1 t160 (t160.length : Int) (wrap64 (x13_1 + 1)))) = some r := H
                          have A38 := Aside0.mk A380
                          clear A380
                          by_cases c39 : t170 = true
                          · subst c39
                            have H1 : (if 0 ≤ t164 then (if t164 ≤ ((rdOf ByteArray.empty t160 x13_1).size : Int) then ((spec_l2With.f kj31 x3_1 ((rdOf ByteArray.empty t160 x13_1).extract 0 (t164 : Int).toNat) x7_31).bind fun t171 => (spec_l22Pairs.l0 kj31 t171 t160 (t160.length : Int) (wrap64 (x13_1 + 1)))) else (none)) else (none)) = some r := by rw [if_pos rfl] at H; exact H
                            clear H
                            have H := H1
                            clear H1
                            by_cases c40 : 0 ≤ t164
                            · rw [if_pos c40] at H
                              have c40b0 := eq_true c40
                              have c40b1 : decide (0 ≤ t164) = true := decide_eq_true c40
                              clear c40
                              by_cases c41 : t164 ≤ ((rdOf ByteArray.empty t160 x13_1).size : Int)
                              · rw [if_pos c41] at H
                                have c41b0 := eq_true c41
                                have c41b1 : decide (t164 ≤ ((rdOf ByteArray.empty t160 x13_1).size : Int)) = true := decide_eq_true c41
                                clear c41
                                replace H := Option.bind_eq_some_iff.mp H
                                obtain ⟨t171, A420, H⟩ := H
                                replace H : (spec_l22Pairs.l0 kj31 t171 t160 (t160.length : Int) (wrap64 (x13_1 + 1))) = some r := H
                                have A42 := Aside0.mk A420
                                clear A420
                                have H' := Aside0.mk H
                                clear H
                                go_wp2_with (first | ((with_reducible refine gate_callee (f := 22) rfl ?_); refine goesL_ (some 66) rfl rfl Try.func22 (by kernel_rfl) rfl #[.string x7_31] rfl (by (try simp only [List.map_toArray, List.map_cons, List.map_nil]); first | done | rfl | (simp only [List.length_drop, List.length_take]; rfl)) ?_; (with_reducible refine (spec_l2Value.calls kj31 x7_31 true _ A38.out).mono ?_); rintro e w' ⟨rfl, ⟨nd, rfl⟩⟩; refine ⟨_, rfl, ?_⟩; obtain ⟨Ao43, co43, eo43⟩ := Kd.R_slice HO_3.out; subst eo43) | ((with_reducible refine gate_callee (f := 23) rfl ?_); refine goesL_ (some 72) rfl rfl Try.func23 (by kernel_rfl) rfl #[.slice Ao43 x3_1.length co43, .string ((rdOf ByteArray.empty t160 x13_1).extract 0 (t164 : Int).toNat), .string x7_31] rfl (by (try simp only [List.map_toArray, List.map_cons, List.map_nil]); first | done | rfl | (simp only [List.length_drop, List.length_take]; rfl)) ?_; (with_reducible refine (spec_l2With.calls kj31 _ _ x3_1 ((rdOf ByteArray.empty t160 x13_1).extract 0 (t164 : Int).toNat) x7_31 t171 _ ?side1 ?side2 A42.out).mono ?_); (case side1 => repeat (first | exact (Kd.R_reads' HO_3.out).2.2 | (with_reducible refine Kd.C_alloc ?_ _) | (with_reducible refine Kd.C_drewN ?_ _) | (with_reducible refine Kd.C_drew ?_))); (case side2 => exact (Kd.R_reads' HO_3.out).2.1); rintro e w44 ⟨v172, rfl, ho0, hb⟩; refine ⟨_, rfl, ?_⟩; have n0_ := Aside0.mk (Kd.R_elder' (by (with_reducible repeat (first | apply Kd.R_alloc | apply Kd.R_drewN | apply Kd.R_drew)); exact HO_3.out) (Kd.R_base ho0) hb); have n1_ := Aside0.mk (Kd.R_below (by (with_reducible repeat (first | apply Kd.R_alloc | apply Kd.R_drewN | apply Kd.R_drew)); exact HO_11.out) hb); have n2_ := Aside0.mk (Kd.R_lower (Kd.R_new' ho0 (Kd.R_lt (by (with_reducible repeat (first | apply Kd.R_alloc | apply Kd.R_drewN | apply Kd.R_drew)); exact HO_3.out))) (below_size (by repeat (first | (with_reducible first | exact HB.out | apply below_alloc | apply pw_below_drewN | apply below_drew1) | exact HB.out)))); have n3_ := Aside0.mk (below_step (by repeat (first | (with_reducible first | exact HB.out | apply below_alloc | apply pw_below_drewN | apply below_drew1) | exact HB.out)) hb); clear HO_3; clear HO_11; clear HB; have HO_3 := n0_; have HO_11 := n1_; have HO173 := n2_; have HB := n3_; clear n0_ n1_ n2_ n3_; (try clear hb); (try clear hb2); (try clear hk); (try clear hi); (try clear ho0)))
                                go_roundg kj31
                                case measure => have := HK1.out; have := HJ8.out; have := HJ31.out; omega
                                case rel => exact ⟨(t171), (wrap64 (x13_1 + 1)), (by first | rfl | (simp; done) | (simp [*]; done)), H', ⟨by have := HK1.out; have := HJ8.out; have := HJ31.out; omega⟩, ⟨by (with_reducible repeat (first | apply Kd.R_alloc | apply Kd.R_drewN | apply Kd.R_drew)); exact Kd.R_mono HO173.out (fun _ hk => trivial)⟩, ⟨by (with_reducible repeat (first | apply Kd.R_alloc | apply Kd.R_drewN | apply Kd.R_drew)); exact HO_11.out⟩, ⟨by repeat (first | (with_reducible first | exact HB.out | apply below_alloc | apply pw_below_drewN | apply below_drew1) | exact HB.out)⟩⟩
                              · rw [if_neg c41] at H
                                exact absurd H (by simp)
                            · rw [if_neg c40] at H
                              exact absurd H (by simp)
                          · replace c39 := Bool.eq_false_iff.mpr c39
                            subst c39
                            have H1 : (spec_l22Pairs.l0 kj31 x3_1 t160 (t160.length : Int) (wrap64 (x13_1 + 1))) = some r := by rw [if_neg (show ¬ (false = true) by decide)] at H; exact H
                            clear H
                            have H := H1
                            clear H1
                            have H' := Aside0.mk H
                            clear H
                            go_wp2_with (first | ((with_reducible refine gate_callee (f := 22) rfl ?_); refine goesL_ (some 66) rfl rfl Try.func22 (by kernel_rfl) rfl #[.string x7_31] rfl (by (try simp only [List.map_toArray, List.map_cons, List.map_nil]); first | done | rfl | (simp only [List.length_drop, List.length_take]; rfl)) ?_; (with_reducible refine (spec_l2Value.calls kj31 x7_31 false _ A38.out).mono ?_); rintro e w' ⟨rfl, ⟨nd, rfl⟩⟩; refine ⟨_, rfl, ?_⟩))
                            go_roundg kj31
                            case measure => have := HK1.out; have := HJ8.out; have := HJ31.out; omega
                            case rel => exact ⟨(x3_1), (wrap64 (x13_1 + 1)), (by first | rfl | (simp; done) | (simp [*]; done)), H', ⟨by have := HK1.out; have := HJ8.out; have := HJ31.out; omega⟩, ⟨by (with_reducible repeat (first | apply Kd.R_alloc | apply Kd.R_drewN | apply Kd.R_drew)); exact HO_3.out⟩, ⟨by (with_reducible repeat (first | apply Kd.R_alloc | apply Kd.R_drewN | apply Kd.R_drew)); exact HO_11.out⟩, ⟨by repeat (first | (with_reducible first | exact HB.out | apply below_alloc | apply pw_below_drewN | apply below_drew1) | exact HB.out)⟩⟩
                    · rw [if_neg c30] at H
                      exact absurd H (by simp)
                  · rw [if_neg c29] at H
                    exact absurd H (by simp)
          · rw [if_neg c7] at H
            exact absurd H (by simp)
        · rw [if_neg c6] at H
          exact absurd H (by simp)
      · rw [if_neg c5] at H
        have c5b0 : decide (x13_1 < (t160.length : Int)) = false := decide_eq_false c5
        clear c5
        obtain rfl := Option.some.inj H
        go_wp2
        go_ret
        exact ⟨_, by first | rfl | (simp [bne]; done) | (simp [errW_none, errW_some] <;> rfl) | (simp [*, errW_none, errW_some] <;> rfl), by (with_reducible repeat (first | apply Kd.R_alloc | apply Kd.R_drewN | apply Kd.R_drew)); exact HO_3.out, by repeat (first | (with_reducible first | exact HB.out | apply below_alloc | apply pw_below_drewN | apply below_drew1) | exact HB.out)⟩

/-! ### spec_PairsOf: function 4 -/
def spec_PairsOf.f (k : Nat) (a0 : ByteArray) : Option ((List (S30))) := (spec_l22Text.f k a0 500).bind fun t174 => (if t174 = true then ((spec_l22Pairs.f k a0).bind fun t175 => (some t175)) else (some ([] : List (S30))))
theorem spec_PairsOf.mono : ∀ a0 k, LeO (spec_PairsOf.f k a0) (spec_PairsOf.f (k + 1) a0) := by
  intro a0 k
  unfold spec_PairsOf.f
  repeat' first
      | (with_reducible exact spec_l22Pairs.mono _ _)
      | (with_reducible exact spec_l22Text.mono _ _ _)
      | (with_reducible exact LeO.refl _)
      | (with_reducible exact LeO.none _)
      | (with_reducible refine LeO.ite ?_ ?_)
      | (with_reducible refine LeO.bind ?_ (fun _ => ?_))
      | exact spec_l22Pairs.mono _ _
      | exact spec_l22Text.mono _ _ _
      | exact LeO.none _
      | refine LeO.ite ?_ ?_
      | refine LeO.bind ?_ (fun _ => ?_)
set_option maxHeartbeats 8000000 in
set_option maxRecDepth 100000 in
theorem spec_PairsOf.calls (k : Nat) (a0 : ByteArray) (r : List (S30)) (w : World) (h : spec_PairsOf.f k a0 = some r) :
    Calls Try.prog 4 #[.string a0] w fun e w' => ∃ v0_ : Value, e = .returned (v0_) ∧ Kd.R k30 30 w' w.heap.size (fun _ => True) v0_ r ∧ Below w.heap.size w w' := by
  have HB := Aside0.mk (Below.refl w.heap.size w)
  have H : ((spec_l22Text.f k a0 500).bind fun t174 => (if t174 = true then ((spec_l22Pairs.f k a0).bind fun t175 => (some t175)) else (some ([] : List (S30))))) = some r := h
  clear h
  replace H := Option.bind_eq_some_iff.mp H
  obtain ⟨t174, A20, H⟩ := H
  replace H : (if t174 = true then ((spec_l22Pairs.f k a0).bind fun t175 => (some t175)) else (some ([] : List (S30)))) = some r := H
  have A2 := Aside0.mk A20
  clear A20
  by_cases c3 : t174 = true
  · subst c3
    have H1 : ((spec_l22Pairs.f k a0).bind fun t175 => (some t175)) = some r := by rw [if_pos rfl] at H; exact H
    clear H
    have H := H1
    clear H1
    replace H := Option.bind_eq_some_iff.mp H
    obtain ⟨t175, A40, H⟩ := H
    replace H : (some t175) = some r := H
    have A4 := Aside0.mk A40
    clear A40
    obtain rfl := Option.some.inj H
    go_enter Try.func4, Try.ntmps4
    go_wp2_with (first | ((with_reducible refine gate_callee (f := 9) rfl ?_); refine goesL_ (some 4) rfl rfl Try.func9 (by kernel_rfl) rfl #[.string a0, .int .i64 500] rfl (by (try simp only [List.map_toArray, List.map_cons, List.map_nil]); first | done | rfl | (simp only [List.length_drop, List.length_take]; rfl)) ?_; (with_reducible refine (spec_l22Text.calls k a0 500 true _ A2.out).mono ?_); rintro e w' ⟨rfl, ⟨nd, rfl⟩⟩; refine ⟨_, rfl, ?_⟩) | ((with_reducible refine gate_callee (f := 10) rfl ?_); refine goesL_ (some 7) rfl rfl Try.func10 (by kernel_rfl) rfl #[.string a0] rfl (by (try simp only [List.map_toArray, List.map_cons, List.map_nil]); first | done | rfl | (simp only [List.length_drop, List.length_take]; rfl)) ?_; (with_reducible refine (spec_l22Pairs.calls k a0 t175 _ A4.out).mono ?_); rintro e w5 ⟨v176, rfl, ho0, hb⟩; refine ⟨_, rfl, ?_⟩; have n0_ := Aside0.mk (Kd.R_lower ho0 (below_size (by repeat (first | (with_reducible first | exact HB.out | apply below_alloc | apply pw_below_drewN | apply below_drew1) | exact HB.out)))); have n1_ := Aside0.mk (below_step (by repeat (first | (with_reducible first | exact HB.out | apply below_alloc | apply pw_below_drewN | apply below_drew1) | exact HB.out)) hb); clear HB; have HO177 := n0_; have HB := n1_; clear n0_ n1_; (try clear hb); (try clear hb2); (try clear hk); (try clear hi); (try clear ho0)))
    go_ret
    exact ⟨_, by first | rfl | (simp [bne]; done) | (simp [errW_none, errW_some] <;> rfl) | (simp [*, errW_none, errW_some] <;> rfl), by (with_reducible repeat (first | apply Kd.R_alloc | apply Kd.R_drewN | apply Kd.R_drew)); exact HO177.out, by repeat (first | (with_reducible first | exact HB.out | apply below_alloc | apply pw_below_drewN | apply below_drew1) | exact HB.out)⟩
  · replace c3 := Bool.eq_false_iff.mpr c3
    subst c3
    have H1 : (some ([] : List (S30))) = some r := by rw [if_neg (show ¬ (false = true) by decide)] at H; exact H
    clear H
    have H := H1
    clear H1
    obtain rfl := Option.some.inj H
    go_enter Try.func4, Try.ntmps4
    go_wp2_with (first | ((with_reducible refine gate_callee (f := 9) rfl ?_); refine goesL_ (some 4) rfl rfl Try.func9 (by kernel_rfl) rfl #[.string a0, .int .i64 500] rfl (by (try simp only [List.map_toArray, List.map_cons, List.map_nil]); first | done | rfl | (simp only [List.length_drop, List.length_take]; rfl)) ?_; (with_reducible refine (spec_l22Text.calls k a0 500 false _ A2.out).mono ?_); rintro e w' ⟨rfl, ⟨nd, rfl⟩⟩; refine ⟨_, rfl, ?_⟩))
    go_ret
    exact ⟨_, by first | rfl | (simp [bne]; done) | (simp [errW_none, errW_some] <;> rfl) | (simp [*, errW_none, errW_some] <;> rfl), by first | exact Kd.R_nil _ _ _ _ _ | exact Kd.N_nil _ _ _ _ _ | exact Kd.V_nil _ _ _ _ _ | exact Kd.Q_nil _ _ _ _ _ | exact Kd.S_nil _ _ _ _ _, by repeat (first | (with_reducible first | exact HB.out | apply below_alloc | apply pw_below_drewN | apply below_drew1) | exact HB.out)⟩

-- NOT PRINTED: function 66 (bytealg_IndexByteString)

-- NOT PRINTED: function 57 (stringslite_IndexByte)

-- NOT PRINTED: function 58 (bytealg_IndexString)

end Go.Proofs.Ytgdekdcbfnghoaa.PFnExactPairsOf
