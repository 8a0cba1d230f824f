/- The program's RootOf: what it computes, as the printed functions want their callees. -/
import Derived.Test.YtedfbdholjjflaaPFnStrangex0
import Derived.Test.YtedfbdholjjflaaHRootMath
import Derived.Lib.Hide
import Derived.Laws.Externs
namespace Go.Proofs.Ytedfbdholjjflaa.PFnStrange
open Go.RowKit Go.Proofs.YtedfbdholjjflaaW.PrintWords Go.Proofs.YtedfbdholjjflaaW.PrintLast

/-- r is the root of n: 0 below 0, else the greatest number whose square is not above n. -/
def IsRoot (n r : Int) : Prop := (n < 0 → r = 0) ∧ (0 ≤ n → 0 ≤ r ∧ r * r ≤ n ∧ n < (r + 1) * (r + 1))

theorem sq_le {a b : Int} (h0 : 0 ≤ a) (h : a ≤ b) : a * a ≤ b * b := Int.mul_le_mul h h h0 (by omega)
theorem root_unique {n r s : Int} (h : IsRoot n r) (k : IsRoot n s) : r = s := by
  by_cases hn : n < 0
  · rw [h.1 hn, k.1 hn]
  · obtain ⟨a1, a2, a3⟩ := h.2 (by omega)
    obtain ⟨b1, b2, b3⟩ := k.2 (by omega)
    rcases Int.lt_trichotomy r s with hlt | heq | hlt
    · have := sq_le (a := r + 1) (b := s) (by omega) (by omega)
      omega
    · exact heq
    · have := sq_le (a := s + 1) (b := r) (by omega) (by omega)
      omega
def isq : Nat → Int
  | 0 => 0
  | m + 1 => if (isq m + 1) * (isq m + 1) ≤ ((m + 1 : Nat) : Int) then isq m + 1 else isq m
theorem isq_is (m : Nat) : 0 ≤ isq m ∧ isq m * isq m ≤ (m : Int) ∧ (m : Int) < (isq m + 1) * (isq m + 1) := by
  induction m with
  | zero => exact ⟨Int.le_refl _, Int.le_refl _, by decide⟩
  | succ m ih =>
    obtain ⟨h0, h1, h2⟩ := ih
    unfold isq
    generalize isq m = r at h0 h1 h2 ⊢
    by_cases h : (r + 1) * (r + 1) ≤ ((m + 1 : Nat) : Int)
    · rw [if_pos h]
      refine ⟨by omega, h, ?_⟩
      have : (r + 1 + 1) * (r + 1 + 1) = (r + 1) * (r + 1) + 2 * (r + 1) + 1 := by
        rw [Int.add_mul (r + 1) 1, Int.mul_add (r + 1) (r + 1) 1]
        omega
      omega
    · rw [if_neg h]
      exact ⟨h0, by omega, by omega⟩
def rootI (n : Int) : Int := if n < 0 then 0 else isq n.toNat
theorem rootI_is (n : Int) : IsRoot n (rootI n) := by
  unfold rootI
  by_cases hn : n < 0
  · rw [if_pos hn]
    exact ⟨fun _ => rfl, fun h => by omega⟩
  · rw [if_neg hn]
    have h := isq_is n.toNat
    rw [Int.toNat_of_nonneg (by omega)] at h
    exact ⟨fun h => by omega, fun _ => h⟩

/-- The greatest root of an int. -/
def top : Int := 3037000499
theorem top_le {r : Int} (h0 : 0 ≤ r) (h : r ≤ top) : r * r ≤ 9223372036854775807 ∧ 0 ≤ r * r := by
  have := sq_le h0 h
  have e : top * top = 9223372030926249001 := by decide
  exact ⟨by omega, Int.mul_nonneg h0 h0⟩

def impl_RootOf.f (a0 : Int) : Option Int := if -9223372036854775808 ≤ a0 ∧ a0 ≤ 9223372036854775807 then some (rootI a0) else none

theorem sqrt_row (x r : Nat) (w : World) (h : FloatKind.f64.format.sqrt x = some r) : (callFunc 40 #[.float .f64 x]).run Try.prog w = .ok (.value (.float .f64 r)) w := by
  rw [run_callFunc_extern (f := 40) (fn := Try.f40) (e := Extern.MathSqrt.sqrt) Try.func40 (by kernel_rfl) (by kernel_rfl) (by kernel_rfl) (by kernel_rfl)]
  have e : Extern.MathSqrt.sqrt #[.float .f64 x] = (match FloatKind.f64.format.sqrt x with
    | some r => pure (.float .f64 r)
    | none => do pure (.float .f64 (← choose (.nanBits .f64 x x)))) := rfl
  rw [e, h]
  rfl

theorem sqrt_calls (x r : Nat) (w : World) (h : FloatKind.f64.format.sqrt x = some r) : Calls Try.prog 37 #[.float .f64 x] w fun e w' => e = .returned (.float .f64 r) ∧ w = w' := by
  have hs := fun w => sqrt_row x r w h
  clear h
  go_enter Try.func37, Try.ntmps37
  go_wp2
  go_ret
  exact ⟨rfl, rfl⟩

theorem to_float (n : Int) (w : World) : (convert 3 52 (.int .i64 n)).run Try.prog w = .ok (.float .f64 (FloatKind.f64.nearest n)) w := by
  simp [convert, go_sem, Conv.intToFloat]

theorem to_int (b : Nat) (n : Int) (w : World) (h : (FloatKind.f64.decode b).toInt .zero = some n) (h0 : 0 ≤ n) (h1 : n ≤ 9007199254740992) : (convert 52 3 (.float .f64 b)).run Try.prog w = .ok (.int .i64 n) w := by
  have h2 : -9223372036854775808 ≤ n ∧ n ≤ 9223372036854775807 := by omega
  simp [convert, go_sem, Conv.floatToInt, h, IntKind.min, IntKind.max, IntKind.signed, IntKind.bits, h2.1, h2.2]

theorem w64 {x : Int} (h0 : -9223372036854775808 ≤ x) (h1 : x ≤ 9223372036854775807) : wrap64 x = x := by
  unfold wrap64
  omega

set_option maxHeartbeats 2000000 in
set_option maxRecDepth 100000 in
theorem impl_RootOf.calls (a0 : Int) (r : Int) (w : World) (h : impl_RootOf.f a0 = some r) :
    Calls Try.prog 30 #[.int .i64 a0] w fun e w' => e = .returned (.int .i64 r) ∧ Drawn0 w w' := by
  unfold impl_RootOf.f at h
  by_cases hb : -9223372036854775808 ≤ a0 ∧ a0 ≤ 9223372036854775807
  · rw [if_pos hb] at h
    obtain ⟨hb0, hb1⟩ := hb
    have HR := Aside0.mk (Option.some.inj h)
    clear h
    have hroot := rootI_is a0
    by_cases hn : a0 < 0
    · have e0 := hroot.1 hn
      have HE := Lib.hid e0
      have hnb : decide (a0 < 0) = true := decide_eq_true hn
      clear hroot e0 hb0 hb1 hn
      go_enter Try.func30, Try.ntmps30
      go_wp2
      go_ret
      have e1 : r = 0 := by rw [← HR.out]; exact HE.out
      exact ⟨by rw [e1]; rfl, Drawn0.refl _⟩
    · have hnb : decide (a0 < 0) = false := decide_eq_false hn
      obtain ⟨b, r0, hs, hd, hr0, hr1⟩ := RootMath.root_float a0 (by omega) hb1
      have HRT := Aside0.mk (hroot.2 (by omega))
      clear hroot
      have hf := to_float a0
      generalize FloatKind.f64.nearest a0 = x at hs hf
      have hi := fun w => to_int b r0 w hd hr0 hr1
      have hsq := fun w => sqrt_calls x b w hs
      have HSQ := Aside0.mk hsq
      have HN := Aside0.mk hn
      have HB := Aside0.mk (And.intro hb0 hb1)
      clear hs hd hsq hn hb0 hb1
      go_enter Try.func30, Try.ntmps30
      go_wp2_with (go_at_call 37; refine (HSQ.out _).mono ?_; rintro e w' ⟨rfl, rfl⟩)
      clear hf hi HSQ
      go_loop [3] (fun v => ∃ q : Int, v = .int .i64 q ∧ Aside0 (0 ≤ q ∧ q ≤ 9007199254740992)) (fun v => (intOf v).toNat)
      case atStart => exact ⟨r0, rfl, ⟨hr0, hr1⟩⟩
      case round =>
        clear hr0 hr1
        obtain ⟨q, rfl, HQ⟩ := hrel
        have hqr := HQ.out
        by_cases hgo : 0 < q ∧ (top < q ∨ a0 < q * q)
        · obtain ⟨hq0, hq⟩ := hgo
          by_cases hq1 : top < q
          · have hq0b : decide (0 < q) = true := decide_eq_true hq0
            have hq1b : decide (3037000499 < q) = true := decide_eq_true hq1
            have HQ1 := Aside0.mk hq1
            have hlo : (1 : Int) ≤ q := by omega
            have hhi : q ≤ 9007199254740992 := by omega
            clear hq hq1 hqr hq0
            go_wp2
            go_round
            case rel => exact ⟨q - 1, by first | rfl | go_num, ⟨by omega, by omega⟩⟩
            case measure => simp [intOf]; omega
          · have hq2 : a0 < q * q := by rcases hq with h | h; exact absurd h hq1; exact h
            have hq3 := top_le (r := q) (by omega) (by unfold top at hq1 ⊢; omega)
            have hq0b : decide (0 < q) = true := decide_eq_true hq0
            have hq1b : decide (3037000499 < q) = false := decide_eq_false hq1
            have hm : wrap64 (q * q) = q * q := w64 (by omega) hq3.1
            have hq2b : decide (a0 < q * q) = true := decide_eq_true hq2
            have HM := Lib.hid hm
            have hlo : (1 : Int) ≤ q := by omega
            have hhi : q ≤ 9007199254740992 := by omega
            have hmlo := hq3.2
            have hmhi := hq3.1
            clear hq hq1 hqr hq0 hq2 hq3 hm
            go_wp2
            go_round
            case rel => exact ⟨q - 1, by first | rfl | go_num, ⟨by omega, by omega⟩⟩
            case measure => simp [intOf]; omega
        · have hx : 0 ≤ q ∧ q ≤ top ∧ q * q ≤ a0 := by
            by_cases h0 : q = 0
            · subst h0
              have := HN.out
              exact ⟨by omega, by decide, by omega⟩
            · refine ⟨hqr.1, ?_, ?_⟩
              · apply Classical.byContradiction
                intro h
                exact hgo ⟨by omega, .inl (by omega)⟩
              · apply Classical.byContradiction
                intro h
                exact hgo ⟨by omega, .inr (by omega)⟩
          have HX := Aside0.mk hx
          have hq3 := top_le hx.1 hx.2.1
          have hhi : q ≤ 3037000499 := hx.2.1
          by_cases hq0 : 0 < q
          all_goals
            have hmlo := hq3.2
            have hmhi := hq3.1
            have hlo : 0 ≤ q := hx.1
            first
            | (have hq0b : decide (0 < q) = true := decide_eq_true hq0)
            | (have hq0b : decide (0 < q) = false := decide_eq_false hq0)
            have hq1b : decide (3037000499 < q) = false := decide_eq_false (by omega)
            have hq2b : decide (a0 < q * q) = false := decide_eq_false (by omega)
            clear hgo hx hqr hq0 hq3
            go_wp2
            clear hq0b hq1b hq2b hmlo hmhi hlo hhi
            go_loop [3] (fun v => ∃ q : Int, v = .int .i64 q ∧ Aside0 (0 ≤ q ∧ q ≤ top ∧ q * q ≤ a0)) (fun v => (3037000499 - intOf v).toNat)
            case atStart => exact ⟨q, rfl, HX⟩
            case round =>
              clear HX HQ
              obtain ⟨p, rfl, HP⟩ := hrel
              have hp := HP.out
              by_cases hgo : p < top ∧ (p + 1) * (p + 1) ≤ a0
              · have hpl : p < 3037000499 := hgo.1
                have hp3 := top_le (r := p + 1) (by omega) (by unfold top; omega)
                have hpb : decide (p < 3037000499) = true := decide_eq_true hpl
                have hp2b : decide ((p + 1) * (p + 1) ≤ a0) = true := decide_eq_true hgo.2
                have HG := Aside0.mk hgo
                have hlo := hp.1
                have hmlo := hp3.2
                have hmhi := hp3.1
                clear hgo hp hp3
                go_wp2
                go_round
                case rel => exact ⟨p + 1, by first | rfl | go_num, ⟨by omega, by have := HG.out.1; omega, HG.out.2⟩⟩
                case measure => simp [intOf]; omega
              · have hr : IsRoot a0 p := by
                  refine ⟨fun h => by have := HN.out; omega, fun _ => ⟨hp.1, hp.2.2, ?_⟩⟩
                  by_cases h : p < top
                  · apply Classical.byContradiction
                    intro h'
                    exact hgo ⟨h, by omega⟩
                  · have e : p = top := by omega
                    subst e
                    have e2 : (top + 1) * (top + 1) = 9223372037000250000 := by decide
                    have := HB.out.2
                    omega
                have HE := Aside0.mk ((root_unique hr (rootI_is a0)).trans HR.out)
                by_cases hpl : p < 3037000499
                · have hp3 := top_le (r := p + 1) (by omega) (by unfold top; omega)
                  have hpb : decide (p < 3037000499) = true := decide_eq_true hpl
                  have hp2b : decide ((p + 1) * (p + 1) ≤ a0) = false := decide_eq_false (fun h => hgo ⟨hpl, h⟩)
                  have hlo := hp.1
                  have hmlo := hp3.2
                  have hmhi := hp3.1
                  clear hgo hp hp3 hr
                  go_wp2
                  go_ret
                  exact ⟨congrArg (fun z => Ending.returned (.int .i64 z)) HE.out, Drawn0.refl _⟩
                · have hpb : decide (p < 3037000499) = false := decide_eq_false hpl
                  have hlo := hp.1
                  clear hgo hp hr hpl
                  go_wp2
                  go_ret
                  exact ⟨congrArg (fun z => Ending.returned (.int .i64 z)) HE.out, Drawn0.refl _⟩
  · rw [if_neg hb] at h
    cases h
end Go.Proofs.Ytedfbdholjjflaa.PFnStrange
