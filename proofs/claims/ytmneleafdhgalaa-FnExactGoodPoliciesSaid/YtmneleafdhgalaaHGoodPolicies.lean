/- The program's GoodPolicies: what it computes, as the printed functions want their callees. -/
import Derived.Test.YtmneleafdhgalaaPFnExactGoodPoliciesx1
import Derived.Test.YtmneleafdhgalaaHIdx
namespace Go.Proofs.Ytmneleafdhgalaa.PFnExactGoodPolicies
open Go.RowKit Go.Shelf Go.Proofs.YtmneleafdhgalaaW.PrintWords Go.Proofs.YtmneleafdhgalaaW.PrintLast Go.Proofs.Ytmneleafdhgalaa.Idx

def badPolicy (k : Nat) (x : S71) : Option Bool := impl_GoodPolicies_1.f k x.f0 x.f1 x.f2
def impl_GoodPolicies.f (k : Nat) (l0 : List S71) : Option Bool := if l0.length ≤ 10 then ((anyM (badPolicy k) l0).bind fun t => some (!t)) else some false
theorem impl_GoodPolicies.mono : ∀ a0 k, LeO (impl_GoodPolicies.f k a0) (impl_GoodPolicies.f (k + 1) a0) := by
  intro a0 k
  unfold impl_GoodPolicies.f
  exact LeO.ite (LeO.bind (leo_anyM (fun x => by unfold badPolicy; exact impl_GoodPolicies_1.mono x.f0 x.f1 x.f2 k) a0) (fun _ => LeO.refl _)) (LeO.refl _)

theorem tells_bad (k : Nat) (l : List S71) (w : World) : Tells Try.prog 49 #[] k71 false l (badPolicy k) w := by
  intro x cs W r _ _ hK hg
  obtain rfl := k71_open hK
  exact (impl_GoodPolicies_1.calls k x.f0 x.f1 x.f2 r W hg).mono fun e W' ⟨he, hb⟩ => ⟨he, hb⟩

set_option maxHeartbeats 4000000 in
set_option maxRecDepth 100000 in
theorem impl_GoodPolicies.calls (k : Nat) (A0 : Option Addr) (c0 : Nat) (l0 : List S71) (r : Bool) (w : World) (hr0 : Kd.C k71 w A0 l0.length l0) (_ : l0.length ≤ c0) (h : impl_GoodPolicies.f k l0 = some r) :
    Calls Try.prog 25 #[.slice A0 l0.length c0] w fun e w' => e = .returned (.bool r) ∧ Below w.heap.size w w' := by
  unfold impl_GoodPolicies.f at h
  have hmax := hr0.2.1
  by_cases hl : l0.length ≤ 10
  · rw [if_pos hl] at h
    obtain ⟨t, ht, h⟩ := Option.bind_eq_some_iff.1 h
    obtain rfl := Option.some.inj h
    have hcon := containsFunc_impl_Policy z71 k71 rfl 49 #[] (enters_of Try.func49 (by kernel_rfl) rfl) (badPolicy k) A0 c0 l0 w hr0 (tells_bad k l0 w) t ht
    have HCON := Aside0.mk hcon
    have hl1 : decide ((l0.length : Int) ≤ 10) = true := decide_eq_true (by omega)
    have hl2 : decide (l0.length ≤ 10) = true := decide_eq_true hl
    clear hcon ht h hr0 hl
    go_enter Try.func25, Try.ntmps25
    go_wp2_with (go_at_call 48; refine HCON.out.mono ?_; rintro e w' ⟨rfl, hb⟩)
    go_ret
    exact ⟨rfl, hb⟩
  · rw [if_neg hl] at h
    obtain rfl := Option.some.inj h
    have hl1 : decide ((l0.length : Int) ≤ 10) = false := decide_eq_false (by omega)
    have hl2 : decide (l0.length ≤ 10) = false := decide_eq_false hl
    clear hr0 hl
    go_enter Try.func25, Try.ntmps25
    go_wp2
    go_ret
    exact ⟨rfl, Below.refl _ _⟩
end Go.Proofs.Ytmneleafdhgalaa.PFnExactGoodPolicies
