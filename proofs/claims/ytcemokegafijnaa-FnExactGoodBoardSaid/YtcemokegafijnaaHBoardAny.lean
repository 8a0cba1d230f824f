/- Whether one of some texts is none for a board: the program's slices.ContainsFunc with its function value. -/
import Derived.Test.YtcemokegafijnaaHBoardDefs
import Derived.Shelf.Abstract
namespace Go.Proofs.Ytcemokegafijnaa.PFnExactGoodBoard
open Go.RowKit Go.Shelf Go.Proofs.YtcemokegafijnaaW.PrintWords Go.Proofs.YtcemokegafijnaaW.PrintLast Go.Proofs.YtcemokegafijnaaW.PrintMore Go.Proofs.Ytcemokegafijnaa.Evs Go.Proofs.Ytcemokegafijnaa.AFnExactGoodBoard Go.Proofs.Ytcemokegafijnaa.TxtFnExactGoodBoard
set_option linter.unusedVariables false
set_option linter.unusedSimpArgs false
set_option maxHeartbeats 4000000 in
set_option maxRecDepth 100000 in
theorem bad40_of (s : ByteArray) {b : Bool} (h : text40 s = b) (w : World) : Calls Try.prog 21 #[.string s] w fun e w' => e = .returned (.bool (!b)) ∧ ∃ m, w' = w.drewN m := by
  have HQ := Aside0.mk (fun W => implText_of s h W)
  clear h
  go_enter Try.func21, Try.ntmps21
  go_wp2_with (go_at_call 22; refine (HQ.out _).mono ?_; rintro e w' ⟨rfl, ⟨m, rfl⟩⟩)
  go_ret
  exact ⟨rfl, _, rfl⟩
set_option maxHeartbeats 4000000 in
set_option maxRecDepth 100000 in
theorem idx_of (F : Nat) (eg : ∀ args w, (callFunc F args).run Try.prog w = .ok (.enter F args) w) (hF : ∀ (s : ByteArray) (b : Bool) (W : World), text40 s = b → Calls Try.prog F #[.string s] W fun e w' => e = .returned (.bool (!b)) ∧ ∃ m, w' = W.drewN m)
    {l : List ByteArray} {A : Option Addr} {c : Nat} {w : World} (hC : Kd.C Kd.string w A l.length l) (hmax : l.length ≤ 1048576) :
    Calls Try.prog 36 #[.slice A l.length c, .func (.func F) #[] #[]] w fun e w' => (∃ q : Int, decide (0 ≤ q) = anyBad l ∧ e = .returned (.int .i64 q)) ∧ ∃ m, w' = w.drewN m := by
  have HC := Aside0.mk hC
  have HF := Aside0.mk hF
  clear hC hF
  go_enter Try.func36, Try.ntmps36
  go_wp2
  go_loopg [5, 8] l.length (fun gg _ s8 wr => ∃ i : Nat, i ≤ l.length ∧ l.length - i ≤ gg ∧ s8 = .int .i64 i ∧ Drawn0 w wr ∧ Aside0 (anyBad l = anyBad (l.drop i)))
  case atStart => exact ⟨0, Nat.zero_le _, by omega, rfl, by repeat (first | exact Drawn0.refl _ | apply Drawn0.step), ⟨rfl⟩⟩
  case round =>
    obtain ⟨i, hi, hg, rfl, ⟨m, rfl⟩, HI⟩ := hrel
    by_cases hlt : i < l.length
    · have hltz : (i : Int) < (l.length : Int) := by omega
      have HI2 := Aside0.mk (HI.out.trans (any_drop l i hlt))
      clear HI
      obtain ⟨ad, e, hx⟩ := Kd.at_string HC.out (i : Int) (by omega) hltz
      cases e
      rw [Int.toNat_natCast] at hx
      cases hb : text40 (rdT l (i : Int)) with
      | false =>
        have HCALL := Aside0.mk (fun W => HF.out _ _ W hb)
        have HV := Aside0.mk (show true = anyBad l by rw [HI2.out, hb]; rfl)
        clear hb HI2
        go_wp2_with (go_at_fn F; refine (HCALL.out _).mono ?_; rintro e w' ⟨rfl, ⟨nd, rfl⟩⟩)
        go_ret
        exact ⟨⟨_, (decide_eq_true (by omega : (0 : Int) ≤ (i : Int))).trans HV.out, rfl⟩, by repeat (first | exact (Drawn0.refl _).out | apply Drawn0.out | exact Drawn0.refl _ | apply Drawn0.step)⟩
      | true =>
        have HCALL := Aside0.mk (fun W => HF.out _ _ W hb)
        have HV := Aside0.mk (show anyBad l = anyBad (l.drop (i + 1)) by rw [HI2.out, hb]; rfl)
        clear hb HI2
        go_wp2_with (go_at_fn F; refine (HCALL.out _).mono ?_; rintro e w' ⟨rfl, ⟨nd, rfl⟩⟩)
        go_roundg (l.length - (i + 1))
        case measure => omega
        case rel => exact ⟨i + 1, by omega, by omega, by go_num, by repeat (first | exact Drawn0.refl _ | apply Drawn0.step), HV⟩
    · have e : i = l.length := by omega
      subst e
      have HV := Aside0.mk (show decide ((0 : Int) ≤ -1) = anyBad l by rw [HI.out, List.drop_length]; rfl)
      clear HI
      go_wp2
      go_ret
      exact ⟨⟨-1, HV.out, rfl⟩, by repeat (first | exact (Drawn0.refl _).out | apply Drawn0.out | exact Drawn0.refl _ | apply Drawn0.step)⟩
set_option maxHeartbeats 4000000 in
set_option maxRecDepth 100000 in
theorem implAny_of {l : List ByteArray} {A : Option Addr} {c : Nat} {w : World} (hC : Kd.C Kd.string w A l.length l) (hmax : l.length ≤ 1048576) {b : Bool} (h : anyBad l = b) (W : World) (hW : Below w.heap.size w W) :
    Calls Try.prog 20 #[.slice A l.length c, .func (.func 21) #[] #[]] W fun e w' => e = .returned (.bool b) ∧ ∃ m, w' = W.drewN m := by
  have HQ := Aside0.mk (fun (W' : World) (hW' : Below w.heap.size w W') => idx_of (c := c) 21 (enters_of Try.func21 (by kernel_rfl) rfl) (fun s b W hb => bad40_of s hb W) (Kd.C_below hC hW') hmax)
  have HW := Aside0.mk hW
  have HB := Aside0.mk h
  clear h hC hW hmax
  go_enter Try.func20, Try.ntmps20
  go_wp2_with (go_at_call 36; refine (HQ.out _ (by repeat (first | exact HW.out | apply pw_below_drewN | apply below_drew1))).mono ?_; rintro e w' ⟨⟨q, hq, rfl⟩, ⟨m, rfl⟩⟩)
  go_ret
  exact ⟨by rw [← HB.out, ← hq]; rfl, by repeat (first | exact (Drawn0.refl _).out | apply Drawn0.out | exact Drawn0.refl _ | apply Drawn0.step)⟩
end Go.Proofs.Ytcemokegafijnaa.PFnExactGoodBoard
