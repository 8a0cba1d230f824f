/- The reference's GoodPattern: what it computes, as the printed functions want their callees. -/
import Derived.Test.YtafphfdnoejdeaaPFnExactGoodPipex2
import Derived.Test.YtafphfdnoejdeaaPat
import Derived.WalkKit
import Derived.KernelRfl
import Derived.Deep.LoopGhost
namespace Go.Proofs.Ytafphfdnoejdeaa.PFnExactGoodPipe
open Go.RowKit Go.Proofs.YtafphfdnoejdeaaW.PrintWords Go.Proofs.YtafphfdnoejdeaaW.PrintLast Go.Proofs.YtafphfdnoejdeaaW.PrintMore Go.Proofs.Ytafphfdnoejdeaa.Pat
set_option linter.unusedVariables false
set_option linter.unusedSimpArgs false
def spec_GoodPattern.f (k : Nat) (a0 : ByteArray) : Option Bool := if a0.size > 100 then some false else (spec_l2Printed.f k a0).bind fun t => if t = true then some (okP a0) else some false
theorem spec_GoodPattern.mono : ∀ a0 k, LeO (spec_GoodPattern.f k a0) (spec_GoodPattern.f (k + 1) a0) := fun a0 k => LeO.ite (LeO.refl _) (LeO.bind (spec_l2Printed.mono a0 k) (fun _ => LeO.refl _))
theorem infoPatI : (Try.prog.info? 3).map (fun i => (i.zero, i.size, i.bytes)) = some (some (.int .i64 0), 1, 8) := by kernel_rfl
theorem infoPatL : (Try.prog.info? 91).map (fun i => (i.zero, i.size, i.bytes)) = some (some (.slice none 0 0), 1, 24) := by kernel_rfl
set_option maxHeartbeats 4000000 in
set_option maxRecDepth 100000 in
theorem specAlts_long (p : ByteArray) (hp : p.size > 100) (w : World) :
    Calls Try.prog 50 #[.string p] w fun e w' => (∃ v, e = .returned (.tuple #[v, .bool false])) ∧ Below w.heap.size w w' := by
  have hb : decide ((p.size : Int) > 100) = true := decide_eq_true (by omega)
  clear hp
  go_enter Try.func50, Try.ntmps50
  go_wp2
  go_ret2
  exact ⟨⟨_, rfl⟩, Below.refl _ _⟩
set_option maxHeartbeats 4000000 in
set_option maxRecDepth 100000 in
theorem specAlts_odd (p : ByteArray) (hp : p.size ≤ 100) (w : World) (hpr : ∀ W : World, Calls Try.prog 24 #[.string p] W fun e W' => e = .returned (.bool false) ∧ Drawn0 W W') :
    Calls Try.prog 50 #[.string p] w fun e w' => (∃ v, e = .returned (.tuple #[v, .bool false])) ∧ Below w.heap.size w w' := by
  have HPR := Aside0.mk hpr
  have hb : decide ((p.size : Int) > 100) = false := decide_eq_false (by omega)
  clear hp hpr
  go_enter Try.func50, Try.ntmps50
  go_wp2_with (go_at_call 24; refine (HPR.out _).mono ?_; rintro e w' ⟨rfl, ⟨nd, rfl⟩⟩)
  go_ret2
  exact ⟨⟨_, rfl⟩, by repeat (first | exact Below.refl _ _ | apply pw_below_drewN | apply below_drew1 | apply below_drew)⟩
set_option maxHeartbeats 8000000 in
set_option maxRecDepth 100000 in
theorem specAlts_of (p : ByteArray) (hp : p.size ≤ 100) (w : World) (hpr : ∀ W : World, Calls Try.prog 24 #[.string p] W fun e W' => e = .returned (.bool true) ∧ Drawn0 W W') :
    Calls Try.prog 50 #[.string p] w fun e w' => (∃ v, e = .returned (.tuple #[v, .bool (okP p)])) ∧ Below w.heap.size w w' := by
  have HPR := Aside0.mk hpr
  have hnot : ((p.size : Int) > 100) = False := eq_false (by omega)
  have hnotb : decide ((p.size : Int) > 100) = false := decide_eq_false (by omega)
  have HP := Aside0.mk hp
  clear hpr hp
  go_enter Try.func50, Try.ntmps50
  go_wp2_with (go_at_call 24; refine (HPR.out _).mono ?_; rintro e w' ⟨rfl, ⟨nd, rfl⟩⟩)
  clear hnot hnotb HPR
  go_loopg [4, 5, 6] (p.size + 1) (fun gg v4 v5 v6 wr => ∃ (x : Int) (f : Nat) (lo : List SV) (ln : List Int), v6 = .int .i64 x ∧ Aside0 (okAt p f x = okP p) ∧ Aside0 (0 ≤ x ∧ x ≤ p.size ∧ p.size - x.toNat < gg ∧ (lo.length : Int) ≤ x ∧ (ln.length : Int) ≤ x ∧ (p.size : Int) < f + x) ∧ Aside0 (kV.R 91 wr w.heap.size (fun _ => True) v4 lo) ∧ Aside0 (Kd.R (Kd.int .i64) 3 wr w.heap.size (fun _ => True) v5 ln) ∧ Aside0 (Below w.heap.size w wr))
  case atStart => exact ⟨0, p.size + 1, [], [], rfl, ⟨rfl⟩, ⟨by simp; omega⟩, ⟨Kd.R_nil _ _ _ _ _⟩, ⟨Kd.R_nil _ _ _ _ _⟩, ⟨by repeat (first | exact Below.refl _ _ | apply below_alloc | apply pw_below_drewN | apply below_drew1)⟩⟩
  case round =>
    obtain ⟨x, f, lo, ln, rfl, HF, HL, HO, HN, HB⟩ := hrel
    obtain ⟨A5, c5, rfl⟩ := Kd.R_slice HN.out
    by_cases hlt : x < (p.size : Int)
    · have hltb : decide (x < (p.size : Int)) = true := decide_eq_true hlt
      have p5 : (0 ≤ x) = True := eq_true HL.out.1
      have q5 : (x < (p.size : Int)) = True := eq_true hlt
      have hx5 := bt_at p x
      have HW := Aside0.mk (show wrap64 (x + 1) = x + 1 from wrap_le _ (by have := HL.out; omega) (by have := HL.out; have := HP.out; omega))
      have HR := Aside0.mk (bt_range p x)
      cases f with
      | zero => have := HL.out; omega
      | succ f =>
      have hF := HF.out
      simp only [okAt] at hF
      rw [if_pos hlt] at hF
      have HLT := Aside0.mk hlt
      clear HF hlt
      by_cases h92 : bt p x = 92
      · rw [if_pos h92] at hF
        have b124 : (bt p x == 124) = false := beq_eq_false_iff_ne.mpr (by omega)
        have b42 : (bt p x == 42) = false := beq_eq_false_iff_ne.mpr (by omega)
        have b63 : (bt p x == 63) = false := beq_eq_false_iff_ne.mpr (by omega)
        have b92 : (bt p x == 92) = true := beq_iff_eq.mpr h92
        clear h92
        have hwr : wrap64 (x + 1) = x + 1 := HW.out
        by_cases he : x + 1 = (p.size : Int)
        · rw [if_pos he] at hF
          have HV := Aside0.mk hF
          have hb : (x + 1 == (p.size : Int)) = true := beq_iff_eq.mpr he
          clear hF he
          go_wp2
          go_ret2
          exact ⟨⟨_, by rw [← HV.out]; rfl⟩, HB.out⟩
        · rw [if_neg he] at hF
          have hb : (x + 1 == (p.size : Int)) = false := beq_eq_false_iff_ne.mpr he
          have HLT2 := Aside0.mk (show x + 1 < (p.size : Int) by have := HLT.out; omega)
          have p6 : (0 ≤ x + 1) = True := eq_true (by have := HL.out; omega)
          have q6 : (x + 1 < (p.size : Int)) = True := eq_true HLT2.out
          have hx6 := bt_at p (x + 1)
          have HR2 := Aside0.mk (bt_range p (x + 1))
          clear he
          by_cases h42' : bt p (x + 1) = 42
          · rw [if_pos (by simp [h42'])] at hF
            have HF1 := Aside0.mk hF
            have HW2 := Aside0.mk (show wrap64 (x + 1 + 1) = x + 2 from (wrap_le _ (by have := HL.out; omega) (by have := HL.out; have := HP.out; omega)).trans (by omega))
            have hcv : wrap64 (bt p (x + 1)) = bt p (x + 1) := wrap_le _ (by have := HR2.out; omega) (by have := HR2.out; omega)
            have n42 : (bt p (x + 1) != 42) = false := bne_eq_false_iff_eq.mpr h42'
            clear hF h42'
            go_wp2_with (first
              | ((with_reducible refine gate_builtin (b := .append) (xs := #[.tmp 79, .tmp 84]) rfl ?_); at_builtin
                 refine Kd.R_append (Kd.int .i64) (w0 := w) w.heap.size rfl (.tmp 79) (.tmp 84) 91 3 (.int .i64 0) 8 rfl Try.underlying91 infoPatI rfl (by decide) (by omega) (.slice A5 ln.length c5) ln (bt p (x + 1)) [.int .i64 (bt p (x + 1))] (fun _ => True) (fun _ => False) rfl (by first | (go_simp; done) | (go_simp; rfl)) ?aP (fun _ hk => hk.elim) ?aF ?aO ?aB ?aS ?aL ?_
                 (case aP => exact rfl); (case aB => exact HB.out); (case aF => exact fun _ _ => trivial); (case aO => exact HN.out); (case aS => exact below_size HB.out); (case aL => have := HL.out; have := HP.out; omega)
                 intro v1 w4 ho hb hg hat
                 have HN4 := Aside0.mk ho; have HB4 := Aside0.mk hb; have HO4 := Aside0.mk (Kd.R_over HO.out HN.out (by decide) hg)
                 clear HN HB HO ho hb hg hat))
            go_roundg (gk - 1)
            case measure => have := HL.out; have := HLT.out; omega
            case rel => exact ⟨x + 2, f, _, _, by rw [HW2.out], HF1, ⟨by have := HL.out; have := HLT.out; have := HLT2.out; simp; omega⟩, HO4, HN4, HB4⟩
          · have tok0 : True := trivial
            by_cases h63' : bt p (x + 1) = 63
            · rw [if_pos (by simp [h63'])] at hF
              have HF1 := Aside0.mk hF
              have HW2 := Aside0.mk (show wrap64 (x + 1 + 1) = x + 2 from (wrap_le _ (by have := HL.out; omega) (by have := HL.out; have := HP.out; omega)).trans (by omega))
              have hcv : wrap64 (bt p (x + 1)) = bt p (x + 1) := wrap_le _ (by have := HR2.out; omega) (by have := HR2.out; omega)
              have n42 : (bt p (x + 1) != 42) = true := bne_iff_ne.mpr h42'
              have n63 : (bt p (x + 1) != 63) = false := bne_eq_false_iff_eq.mpr h63'
              clear hF h42' h63'
              go_wp2_with (first
                | ((with_reducible refine gate_builtin (b := .append) (xs := #[.tmp 79, .tmp 84]) rfl ?_); at_builtin
                   refine Kd.R_append (Kd.int .i64) (w0 := w) w.heap.size rfl (.tmp 79) (.tmp 84) 91 3 (.int .i64 0) 8 rfl Try.underlying91 infoPatI rfl (by decide) (by omega) (.slice A5 ln.length c5) ln (bt p (x + 1)) [.int .i64 (bt p (x + 1))] (fun _ => True) (fun _ => False) rfl (by first | (go_simp; done) | (go_simp; rfl)) ?aP (fun _ hk => hk.elim) ?aF ?aO ?aB ?aS ?aL ?_
                   (case aP => exact rfl); (case aB => exact HB.out); (case aF => exact fun _ _ => trivial); (case aO => exact HN.out); (case aS => exact below_size HB.out); (case aL => have := HL.out; have := HP.out; omega)
                   intro v1 w4 ho hb hg hat
                   have HN4 := Aside0.mk ho; have HB4 := Aside0.mk hb; have HO4 := Aside0.mk (Kd.R_over HO.out HN.out (by decide) hg)
                   clear HN HB HO ho hb hg hat))
              go_roundg (gk - 1)
              case measure => have := HL.out; have := HLT.out; omega
              case rel => exact ⟨x + 2, f, _, _, by rw [HW2.out], HF1, ⟨by have := HL.out; have := HLT.out; have := HLT2.out; simp; omega⟩, HO4, HN4, HB4⟩
            · have tok1 : True := trivial
              by_cases h124' : bt p (x + 1) = 124
              · rw [if_pos (by simp [h124'])] at hF
                have HF1 := Aside0.mk hF
                have HW2 := Aside0.mk (show wrap64 (x + 1 + 1) = x + 2 from (wrap_le _ (by have := HL.out; omega) (by have := HL.out; have := HP.out; omega)).trans (by omega))
                have hcv : wrap64 (bt p (x + 1)) = bt p (x + 1) := wrap_le _ (by have := HR2.out; omega) (by have := HR2.out; omega)
                have n42 : (bt p (x + 1) != 42) = true := bne_iff_ne.mpr h42'
                have n63 : (bt p (x + 1) != 63) = true := bne_iff_ne.mpr h63'
                have n124 : (bt p (x + 1) != 124) = false := bne_eq_false_iff_eq.mpr h124'
                clear hF h42' h63' h124'
                go_wp2_with (first
                  | ((with_reducible refine gate_builtin (b := .append) (xs := #[.tmp 79, .tmp 84]) rfl ?_); at_builtin
                     refine Kd.R_append (Kd.int .i64) (w0 := w) w.heap.size rfl (.tmp 79) (.tmp 84) 91 3 (.int .i64 0) 8 rfl Try.underlying91 infoPatI rfl (by decide) (by omega) (.slice A5 ln.length c5) ln (bt p (x + 1)) [.int .i64 (bt p (x + 1))] (fun _ => True) (fun _ => False) rfl (by first | (go_simp; done) | (go_simp; rfl)) ?aP (fun _ hk => hk.elim) ?aF ?aO ?aB ?aS ?aL ?_
                     (case aP => exact rfl); (case aB => exact HB.out); (case aF => exact fun _ _ => trivial); (case aO => exact HN.out); (case aS => exact below_size HB.out); (case aL => have := HL.out; have := HP.out; omega)
                     intro v1 w4 ho hb hg hat
                     have HN4 := Aside0.mk ho; have HB4 := Aside0.mk hb; have HO4 := Aside0.mk (Kd.R_over HO.out HN.out (by decide) hg)
                     clear HN HB HO ho hb hg hat))
                go_roundg (gk - 1)
                case measure => have := HL.out; have := HLT.out; omega
                case rel => exact ⟨x + 2, f, _, _, by rw [HW2.out], HF1, ⟨by have := HL.out; have := HLT.out; have := HLT2.out; simp; omega⟩, HO4, HN4, HB4⟩
              · have tok2 : True := trivial
                by_cases h92' : bt p (x + 1) = 92
                · rw [if_pos (by simp [h92'])] at hF
                  have HF1 := Aside0.mk hF
                  have HW2 := Aside0.mk (show wrap64 (x + 1 + 1) = x + 2 from (wrap_le _ (by have := HL.out; omega) (by have := HL.out; have := HP.out; omega)).trans (by omega))
                  have hcv : wrap64 (bt p (x + 1)) = bt p (x + 1) := wrap_le _ (by have := HR2.out; omega) (by have := HR2.out; omega)
                  have n42 : (bt p (x + 1) != 42) = true := bne_iff_ne.mpr h42'
                  have n63 : (bt p (x + 1) != 63) = true := bne_iff_ne.mpr h63'
                  have n124 : (bt p (x + 1) != 124) = true := bne_iff_ne.mpr h124'
                  have n92 : (bt p (x + 1) != 92) = false := bne_eq_false_iff_eq.mpr h92'
                  clear hF h42' h63' h124' h92'
                  go_wp2_with (first
                    | ((with_reducible refine gate_builtin (b := .append) (xs := #[.tmp 79, .tmp 84]) rfl ?_); at_builtin
                       refine Kd.R_append (Kd.int .i64) (w0 := w) w.heap.size rfl (.tmp 79) (.tmp 84) 91 3 (.int .i64 0) 8 rfl Try.underlying91 infoPatI rfl (by decide) (by omega) (.slice A5 ln.length c5) ln (bt p (x + 1)) [.int .i64 (bt p (x + 1))] (fun _ => True) (fun _ => False) rfl (by first | (go_simp; done) | (go_simp; rfl)) ?aP (fun _ hk => hk.elim) ?aF ?aO ?aB ?aS ?aL ?_
                       (case aP => exact rfl); (case aB => exact HB.out); (case aF => exact fun _ _ => trivial); (case aO => exact HN.out); (case aS => exact below_size HB.out); (case aL => have := HL.out; have := HP.out; omega)
                       intro v1 w4 ho hb hg hat
                       have HN4 := Aside0.mk ho; have HB4 := Aside0.mk hb; have HO4 := Aside0.mk (Kd.R_over HO.out HN.out (by decide) hg)
                       clear HN HB HO ho hb hg hat))
                  go_roundg (gk - 1)
                  case measure => have := HL.out; have := HLT.out; omega
                  case rel => exact ⟨x + 2, f, _, _, by rw [HW2.out], HF1, ⟨by have := HL.out; have := HLT.out; have := HLT2.out; simp; omega⟩, HO4, HN4, HB4⟩
                · rw [if_neg (by simp [h42', h63', h124', h92'])] at hF
                  have HV := Aside0.mk hF
                  have n42 : (bt p (x + 1) != 42) = true := bne_iff_ne.mpr h42'
                  have n63 : (bt p (x + 1) != 63) = true := bne_iff_ne.mpr h63'
                  have n124 : (bt p (x + 1) != 124) = true := bne_iff_ne.mpr h124'
                  have n92 : (bt p (x + 1) != 92) = true := bne_iff_ne.mpr h92'
                  clear hF h42' h63' h124' h92'
                  go_wp2
                  go_ret2
                  exact ⟨⟨_, by rw [← HV.out]; rfl⟩, HB.out⟩
      · rw [if_neg h92] at hF
        have HF1 := Aside0.mk hF
        have b92 : (bt p x == 92) = false := beq_eq_false_iff_ne.mpr h92
        clear hF h92
        by_cases h124 : bt p x = 124
        · have b124 : (bt p x == 124) = true := beq_iff_eq.mpr h124
          clear h124
          go_wp2_with (first
            | ((with_reducible refine gate_builtin (b := .append) (xs := #[.tmp 33, .tmp 35]) rfl ?_); at_builtin
               refine Kd.R_append kV (w0 := w) w.heap.size rfl (.tmp 33) (.tmp 35) 74 91 (.slice none 0 0) 24 rfl Try.underlying74 infoPatL rfl (by decide) (by omega) u4 lo (⟨.slice A5 ln.length c5, slice_one _ _ _⟩ : SV) [.slice A5 ln.length c5] (fun _ => True) (fun _ => False) rfl (by first | (go_simp; done) | (go_simp; rfl)) ?aP (fun _ hk => hk.elim) ?aF ?aO ?aB ?aS ?aL ?_
               (case aP => exact rfl); (case aB => exact HB.out); (case aF => exact fun _ _ => trivial); (case aO => exact HO.out); (case aS => exact below_size HB.out); (case aL => have := HL.out; have := HP.out; omega)
               intro v1 w4 ho hb hg hat
               have HO4 := Aside0.mk ho; have HB4 := Aside0.mk hb
               clear HN HB HO ho hb hg hat))
          go_roundg (gk - 1)
          case measure => have := HL.out; have := HLT.out; omega
          case rel => exact ⟨x + 1, f, _, [], by rw [HW.out], HF1, ⟨by have := HL.out; have := HLT.out; simp; omega⟩, HO4, ⟨Kd.R_nil _ _ _ _ _⟩, HB4⟩
        · have b124 : (bt p x == 124) = false := beq_eq_false_iff_ne.mpr h124
          clear h124
          by_cases h42 : bt p x = 42
          · have b42 : (bt p x == 42) = true := beq_iff_eq.mpr h42
            clear h42
            go_wp2_with (first
              | ((with_reducible refine gate_builtin (b := .append) (xs := #[.tmp 39, .tmp 40]) rfl ?_); at_builtin
                 refine Kd.R_append (Kd.int .i64) (w0 := w) w.heap.size rfl (.tmp 39) (.tmp 40) 91 3 (.int .i64 0) 8 rfl Try.underlying91 infoPatI rfl (by decide) (by omega) (.slice A5 ln.length c5) ln (-1) [.int .i64 (-1)] (fun _ => True) (fun _ => False) rfl (by first | (go_simp; done) | (go_simp; rfl)) ?aP (fun _ hk => hk.elim) ?aF ?aO ?aB ?aS ?aL ?_
                 (case aP => exact rfl); (case aB => exact HB.out); (case aF => exact fun _ _ => trivial); (case aO => exact HN.out); (case aS => exact below_size HB.out); (case aL => have := HL.out; have := HP.out; omega)
                 intro v1 w4 ho hb hg hat
                 have HN4 := Aside0.mk ho; have HB4 := Aside0.mk hb; have HO4 := Aside0.mk (Kd.R_over HO.out HN.out (by decide) hg)
                 clear HN HB HO ho hb hg hat))
            go_roundg (gk - 1)
            case measure => have := HL.out; have := HLT.out; omega
            case rel => exact ⟨x + 1, f, _, _, by rw [HW.out], HF1, ⟨by have := HL.out; have := HLT.out; simp; omega⟩, HO4, HN4, HB4⟩
          · have b42 : (bt p x == 42) = false := beq_eq_false_iff_ne.mpr h42
            clear h42
            by_cases h63 : bt p x = 63
            · have b63 : (bt p x == 63) = true := beq_iff_eq.mpr h63
              clear h63
              go_wp2_with (first
                | ((with_reducible refine gate_builtin (b := .append) (xs := #[.tmp 44, .tmp 45]) rfl ?_); at_builtin
                   refine Kd.R_append (Kd.int .i64) (w0 := w) w.heap.size rfl (.tmp 44) (.tmp 45) 91 3 (.int .i64 0) 8 rfl Try.underlying91 infoPatI rfl (by decide) (by omega) (.slice A5 ln.length c5) ln (-2) [.int .i64 (-2)] (fun _ => True) (fun _ => False) rfl (by first | (go_simp; done) | (go_simp; rfl)) ?aP (fun _ hk => hk.elim) ?aF ?aO ?aB ?aS ?aL ?_
                   (case aP => exact rfl); (case aB => exact HB.out); (case aF => exact fun _ _ => trivial); (case aO => exact HN.out); (case aS => exact below_size HB.out); (case aL => have := HL.out; have := HP.out; omega)
                   intro v1 w4 ho hb hg hat
                   have HN4 := Aside0.mk ho; have HB4 := Aside0.mk hb; have HO4 := Aside0.mk (Kd.R_over HO.out HN.out (by decide) hg)
                   clear HN HB HO ho hb hg hat))
              go_roundg (gk - 1)
              case measure => have := HL.out; have := HLT.out; omega
              case rel => exact ⟨x + 1, f, _, _, by rw [HW.out], HF1, ⟨by have := HL.out; have := HLT.out; simp; omega⟩, HO4, HN4, HB4⟩
            · have b63 : (bt p x == 63) = false := beq_eq_false_iff_ne.mpr h63
              clear h63
              have hcv : wrap64 (bt p x) = bt p x := wrap_le _ (by have := HR.out; omega) (by have := HR.out; omega)
              go_wp2_with (first
                | ((with_reducible refine gate_builtin (b := .append) (xs := #[.tmp 24, .tmp 29]) rfl ?_); at_builtin
                   refine Kd.R_append (Kd.int .i64) (w0 := w) w.heap.size rfl (.tmp 24) (.tmp 29) 91 3 (.int .i64 0) 8 rfl Try.underlying91 infoPatI rfl (by decide) (by omega) (.slice A5 ln.length c5) ln (bt p x) [.int .i64 (bt p x)] (fun _ => True) (fun _ => False) rfl (by first | (go_simp; done) | (go_simp; rfl)) ?aP (fun _ hk => hk.elim) ?aF ?aO ?aB ?aS ?aL ?_
                   (case aP => exact rfl); (case aB => exact HB.out); (case aF => exact fun _ _ => trivial); (case aO => exact HN.out); (case aS => exact below_size HB.out); (case aL => have := HL.out; have := HP.out; omega)
                   intro v1 w4 ho hb hg hat
                   have HN4 := Aside0.mk ho; have HB4 := Aside0.mk hb; have HO4 := Aside0.mk (Kd.R_over HO.out HN.out (by decide) hg)
                   clear HN HB HO ho hb hg hat))
              go_roundg (gk - 1)
              case measure => have := HL.out; have := HLT.out; omega
              case rel => exact ⟨x + 1, f, _, _, by rw [HW.out], HF1, ⟨by have := HL.out; have := HLT.out; simp; omega⟩, HO4, HN4, HB4⟩
    · have hFT : okP p = true := by
        rw [← HF.out]
        cases f with
        | zero => have := HL.out; omega
        | succ f => simp only [okAt]; rw [if_neg hlt]
      have hltb : decide (x < (p.size : Int)) = false := decide_eq_false hlt
      clear hlt
      have HV := Aside0.mk hFT
      clear hFT HF
      go_wp2_with (first
        | ((with_reducible refine gate_builtin (b := .append) (xs := #[.tmp 86, .tmp 88]) rfl ?_); at_builtin
           refine Kd.R_append kV (w0 := w) w.heap.size rfl (.tmp 86) (.tmp 88) 74 91 (.slice none 0 0) 24 rfl Try.underlying74 infoPatL rfl (by decide) (by omega) u4 lo (⟨.slice A5 ln.length c5, slice_one _ _ _⟩ : SV) [.slice A5 ln.length c5] (fun _ => True) (fun _ => False) rfl (by first | (go_simp; done) | (go_simp; rfl)) ?aP (fun _ hk => hk.elim) ?aF ?aO ?aB ?aS ?aL ?_
           (case aP => exact rfl); (case aB => exact HB.out); (case aF => exact fun _ _ => trivial); (case aO => exact HO.out); (case aS => exact below_size HB.out); (case aL => have := HL.out; have := HP.out; omega)
           intro v1 w4 ho hb hg hat
           have HO4 := Aside0.mk ho; have HB4 := Aside0.mk hb
           clear HN HB HO ho hb hg hat))
      go_ret2
      exact ⟨⟨_, by rw [HV.out]; rfl⟩, HB4.out⟩

set_option maxHeartbeats 4000000 in
set_option maxRecDepth 100000 in
theorem spec_GoodPattern.calls (k : Nat) (a0 : ByteArray) (r : Bool) (w : World) (h : spec_GoodPattern.f k a0 = some r) :
    Calls Try.prog 25 #[.string a0] w fun e w' => e = .returned (.bool r) ∧ Below w.heap.size w w' := by
  unfold spec_GoodPattern.f at h
  have HQ := Aside0.mk (show ∀ W : World, Calls Try.prog 50 #[.string a0] W fun e w' => (∃ v, e = .returned (.tuple #[v, .bool r])) ∧ Below W.heap.size W w' from fun W => by
    by_cases hp : a0.size > 100
    · rw [if_pos hp] at h
      obtain rfl := Option.some.inj h
      exact specAlts_long a0 hp W
    · rw [if_neg hp] at h
      obtain ⟨t, ht, h⟩ := Option.bind_eq_some_iff.1 h
      cases t with
      | true =>
        rw [if_pos rfl] at h
        obtain rfl := Option.some.inj h
        exact specAlts_of a0 (by omega) W (fun W' => spec_l2Printed.calls k a0 true W' ht)
      | false =>
        rw [if_neg (by decide)] at h
        obtain rfl := Option.some.inj h
        exact specAlts_odd a0 (by omega) W (fun W' => spec_l2Printed.calls k a0 false W' ht))
  clear h
  go_enter Try.func25, Try.ntmps25
  go_wp2_with (go_at_call 50; refine (HQ.out _).mono ?_; rintro e w' ⟨⟨v, rfl⟩, hb⟩)
  go_ret
  exact ⟨rfl, hb⟩
end Go.Proofs.Ytafphfdnoejdeaa.PFnExactGoodPipe
