/- impl.live: the samples that bear no stale mark. -/
import Derived.Test.YtedfbdholjjflaaHFilterSample
namespace Go.Proofs.Ytedfbdholjjflaa.PFnStrange
open Go.RowKit Go.Shelf Go.Proofs.YtedfbdholjjflaaW.PrintWords Go.Proofs.YtedfbdholjjflaaW.PrintLast Go.Proofs.YtedfbdholjjflaaW.PrintMore
set_option linter.unusedVariables false
set_option linter.unusedSimpArgs false
def aliveB (x : SM) : Bool := x.f1 != -9223372036854775808
def liveM (l : List SM) : List SM := l.filter aliveB
set_option maxHeartbeats 4000000 in
set_option maxRecDepth 100000 in
theorem live1_of (x : SM) (w : World) : Calls Try.prog 27 #[.agg #[.int .i64 x.f0, .int .i64 x.f1]] w fun e w' => e = .returned (.bool (aliveB x)) ∧ Below w.heap.size w w' := by
  go_enter Try.func27, Try.ntmps27
  go_wp2
  go_ret
  exact ⟨rfl, by repeat (first | exact Below.refl _ _ | apply below_alloc | apply pw_below_drewN | apply below_drew1 | apply below_drew)⟩
set_option maxHeartbeats 4000000 in
set_option maxRecDepth 100000 in
theorem live_of {l : List SM} {A : Option Addr} {c : Nat} {w : World} (hC : Kd.C k29 w A l.length l) (hmax : l.length ≤ 1048576) :
    Calls Try.prog 14 #[.slice A l.length c] w fun e w' => ∃ v0_ : Value, e = .returned v0_ ∧ Kd.R k29 29 w' w.heap.size (fun _ => True) v0_ (liveM l) ∧ Below w.heap.size w w' := by
  have HQ := Aside0.mk (filter_of (c := c) 27 #[] (enters_of Try.func27 (by kernel_rfl) rfl) aliveB hC hmax (fun x _ W _ => live1_of x W))
  clear hC hmax
  go_enter Try.func14, Try.ntmps14
  go_wp2_with (go_at_call 15; refine HQ.out.mono ?_; rintro e w' ⟨v0, rfl, ho, hb⟩)
  go_ret
  exact ⟨_, rfl, ho, hb⟩
def impl_live.f (l : List SM) : Option (List SM) := if l.length ≤ 1048576 then some (liveM l) else none
theorem impl_live.calls (A0 : Option Addr) (c0 : Nat) (l0 : List SM) (r : List SM) (w : World) (hr0 : Kd.C k29 w A0 l0.length l0) (hc0 : l0.length ≤ c0) (h : impl_live.f l0 = some r) :
    Calls Try.prog 14 #[.slice A0 l0.length c0] w fun e w' => ∃ v0_ : Value, e = .returned v0_ ∧ Kd.R k29 29 w' w.heap.size (fun _ => True) v0_ r ∧ Below w.heap.size w w' := by
  unfold impl_live.f at h
  by_cases hl : l0.length ≤ 1048576
  · rw [if_pos hl] at h
    obtain rfl := Option.some.inj h
    exact live_of hr0 hl
  · rw [if_neg hl] at h
    exact absurd h (by simp)
end Go.Proofs.Ytedfbdholjjflaa.PFnStrange
