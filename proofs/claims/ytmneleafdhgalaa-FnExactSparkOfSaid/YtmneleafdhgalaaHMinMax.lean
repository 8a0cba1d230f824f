/- slices.Min and slices.Max at []int, as the printed functions want their callees. -/
import Derived.Test.YtmneleafdhgalaaPFnExactSparkOfx0
import Derived.Lib.Slices
import Derived.Lib.Hide
namespace Go.Proofs.Ytmneleafdhgalaa.PFnExactSparkOf
open Go.RowKit Go.Proofs.YtmneleafdhgalaaW.PrintWords Go.Proofs.YtmneleafdhgalaaW.PrintLast
def slices_Min_int_int.f (l : List Int) : Option Int := if 0 < l.length then some (Lib.minOf l) else none
def slices_Max_int_int.f (l : List Int) : Option Int := if 0 < l.length then some (Lib.maxOf l) else none

theorem rd_getD (l : List Int) (k : Nat) : rd l (k : Int) = l.getD k 0 := by unfold rd; rw [Int.toNat_natCast]

set_option maxHeartbeats 2000000 in
set_option maxRecDepth 100000 in
theorem slices_Min_int_int.calls (A0 : Option Addr) (c0 : Nat) (l0 : List Int) (r : Int) (w : World) (hr0 : Kd.C (Kd.int .i64) w A0 l0.length l0) (_ : l0.length ≤ c0) (h : slices_Min_int_int.f l0 = some r) :
    Calls Try.prog 35 #[.slice A0 l0.length c0] w fun e w' => e = .returned (.int .i64 r) ∧ Drawn0 w w' := by
  unfold slices_Min_int_int.f at h
  by_cases hp : 0 < l0.length
  · rw [if_pos hp] at h
    obtain rfl := Option.some.inj h
    have hmax := hr0.2.1
    obtain ⟨ad, rfl, h0⟩ := Kd.at_int hr0 0 (by omega) (by omega)
    have hcells : ∀ k : Nat, k < l0.length → w.cell? (ad.add k) = some (.int .i64 (rd l0 (k : Int))) := fun k hk => by
      obtain ⟨ad', e, hk'⟩ := Kd.at_int hr0 (k : Int) (by omega) (by omega)
      injection e with e
      subst e
      rw [Int.toNat_natCast] at hk'
      exact hk'
    clear h hr0 h0
    obtain ⟨b, off, sp⟩ := ad
    have h0 : w.cell? ⟨b, off, sp⟩ = some (.int .i64 (rd l0 0)) := by
      have := hcells 0 hp
      simpa [Addr.add] using this
    go_enter Try.func35, Try.ntmps35
    go_wp2
    go_loop [3, 4] (fun m i => ∃ k : Nat, 0 < k ∧ k ≤ l0.length ∧ i = .int .i64 k ∧ m = .int .i64 (Lib.minOf (l0.take k))) (fun _ i => l0.length - (intOf i).toNat)
    case atStart => exact ⟨1, Nat.one_pos, hp, rfl, by rw [Lib.minOf_one]; rfl⟩
    case round =>
      obtain ⟨k, hk0, hk, rfl, rfl⟩ := hrel
      by_cases hlt : k < l0.length
      · have hcell := hcells k hlt
        have hs := Lib.minOf_step l0 k hk0 hlt
        rw [← rd_getD] at hs
        have HS := Lib.hid hs
        clear hcells h0 hs
        go_wp2
        go_round
        case rel => exact ⟨k + 1, Nat.succ_pos k, by omega, by go_num, by rw [HS.out]; refine congrArg (Value.int .i64) ?_; first | rfl | (split <;> omega)⟩
        case measure => simp [intOf]; omega
      · have : k = l0.length := by omega
        subst this
        clear hcells h0
        go_wp2
        go_ret
        exact ⟨by first | rfl | rw [List.take_length], Drawn0.refl _⟩
  · rw [if_neg hp] at h
    cases h

set_option maxHeartbeats 2000000 in
set_option maxRecDepth 100000 in
theorem slices_Max_int_int.calls (A0 : Option Addr) (c0 : Nat) (l0 : List Int) (r : Int) (w : World) (hr0 : Kd.C (Kd.int .i64) w A0 l0.length l0) (_ : l0.length ≤ c0) (h : slices_Max_int_int.f l0 = some r) :
    Calls Try.prog 36 #[.slice A0 l0.length c0] w fun e w' => e = .returned (.int .i64 r) ∧ Drawn0 w w' := by
  unfold slices_Max_int_int.f at h
  by_cases hp : 0 < l0.length
  · rw [if_pos hp] at h
    obtain rfl := Option.some.inj h
    have hmax := hr0.2.1
    obtain ⟨ad, rfl, h0⟩ := Kd.at_int hr0 0 (by omega) (by omega)
    have hcells : ∀ k : Nat, k < l0.length → w.cell? (ad.add k) = some (.int .i64 (rd l0 (k : Int))) := fun k hk => by
      obtain ⟨ad', e, hk'⟩ := Kd.at_int hr0 (k : Int) (by omega) (by omega)
      injection e with e
      subst e
      rw [Int.toNat_natCast] at hk'
      exact hk'
    clear h hr0 h0
    obtain ⟨b, off, sp⟩ := ad
    have h0 : w.cell? ⟨b, off, sp⟩ = some (.int .i64 (rd l0 0)) := by
      have := hcells 0 hp
      simpa [Addr.add] using this
    go_enter Try.func36, Try.ntmps36
    go_wp2
    go_loop [3, 4] (fun m i => ∃ k : Nat, 0 < k ∧ k ≤ l0.length ∧ i = .int .i64 k ∧ m = .int .i64 (Lib.maxOf (l0.take k))) (fun _ i => l0.length - (intOf i).toNat)
    case atStart => exact ⟨1, Nat.one_pos, hp, rfl, by rw [Lib.maxOf_one]; rfl⟩
    case round =>
      obtain ⟨k, hk0, hk, rfl, rfl⟩ := hrel
      by_cases hlt : k < l0.length
      · have hcell := hcells k hlt
        have hs := Lib.maxOf_step l0 k hk0 hlt
        rw [← rd_getD] at hs
        have HS := Lib.hid hs
        clear hcells h0 hs
        go_wp2
        go_round
        case rel => exact ⟨k + 1, Nat.succ_pos k, by omega, by go_num, by rw [HS.out]; refine congrArg (Value.int .i64) ?_; first | rfl | (split <;> omega)⟩
        case measure => simp [intOf]; omega
      · have : k = l0.length := by omega
        subst this
        clear hcells h0
        go_wp2
        go_ret
        exact ⟨by first | rfl | rw [List.take_length], Drawn0.refl _⟩
  · rw [if_neg hp] at h
    cases h
end Go.Proofs.Ytmneleafdhgalaa.PFnExactSparkOf
