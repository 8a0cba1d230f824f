/- The walk of kidsOf. -/
import Derived.Test.YtkehglgehbfcmaaHFilterCall
namespace Go.Proofs.Ytkehglgehbfcmaa.PFnExactSelfTimes
open Go.RowKit Go.Shelf Go.Proofs.YtkehglgehbfcmaaW.PrintWords Go.Proofs.YtkehglgehbfcmaaW.PrintLast Go.Proofs.YtkehglgehbfcmaaW.PrintMore
set_option linter.unusedVariables false
set_option linter.unusedSimpArgs false
def kidsM (l : List SC) (n : Int) : List SC := l.filter (fun x => x.f1 == n)
set_option maxHeartbeats 4000000 in
set_option maxRecDepth 100000 in
theorem kid1_of (x : SC) (n : Int) (g : Nat) (w : World) (h : w.cell? ⟨g, 0, none⟩ = some (.int .i64 n)) : Calls Try.prog 33 #[.agg #[.int .i64 x.f0, .int .i64 x.f1, .string x.f2, .string x.f3, .int .i64 x.f4, .int .i64 x.f5, .bool x.f6], .pointer (some ⟨g, 0, none⟩)] w fun e w' => e = .returned (.bool (x.f1 == n)) ∧ Below w.heap.size w w' := by
  go_enter Try.func33, Try.ntmps33
  have h' := pw_cell_below (below_alloc (Below.refl w.heap.size w) (.cells #[.int .i64 x.f0, .int .i64 x.f1, .string x.f2, .string x.f3, .int .i64 x.f4, .int .i64 x.f5, .bool x.f6] 40)) h
  go_wp2
  go_ret
  exact ⟨rfl, by repeat (first | exact Below.refl _ _ | apply below_alloc | apply pw_below_drewN | apply below_drew1 | apply below_drew)⟩
theorem two_blocks (w : World) (o0 o1 : Obj) : ((w.alloc o0).alloc o1).heap[w.heap.size]? = some o0 ∧ ((w.alloc o0).alloc o1).heap[w.heap.size + 1]? = some o1 ∧ Below w.heap.size w ((w.alloc o0).alloc o1) := by
  have sz : ∀ (w : World) (o : Obj), (w.alloc o).heap.size = w.heap.size + 1 := fun w o => by first | rfl | (rw [World.alloc_eq]; exact Array.size_push _) | simp
  have b0 := blk_new w o0
  have b1 := blk_new (w.alloc o0) o1
  rw [sz w o0] at b1
  exact ⟨(Below.heap_alloc (w.alloc o0) o1 _ (blk_lt b0)).trans b0, b1, below_alloc (below_alloc (Below.refl _ _) _) _⟩
set_option maxHeartbeats 4000000 in
set_option maxRecDepth 100000 in
theorem kids_of {l : List SC} {A : Option Addr} {c : Nat} {w : World} (hC : Kd.C k40 w A l.length l) (hmax : l.length ≤ 1048576) (t n : Int) :
    Calls Try.prog 19 #[.agg #[.int .i64 t, .slice A l.length c], .int .i64 n] w fun e w' => ∃ v0_ : Value, e = .returned v0_ ∧ Kd.R k40 40 w' w.heap.size (fun _ => True) v0_ (kidsM l n) ∧ Below w.heap.size w w' := by
  have HC := Aside0.mk hC
  have HM := Aside0.mk hmax
  clear hC hmax
  go_enter Try.func19, Try.ntmps19
  go_upto_region 1 with (fail)
  obtain ⟨f0, f1, hB1⟩ := two_blocks w (.cells #[.int .i64 t, .slice A l.length c] 30) (.cells #[.int .i64 n] 3)
  generalize (w.alloc (.cells #[.int .i64 t, .slice A l.length c] 30)).alloc (.cells #[.int .i64 n] 3) = W1 at *
  have HB1 := Aside0.mk hB1
  have c0' : W1.cell? ⟨w.heap.size, 1, none⟩ = some (.slice A l.length c) := (blk_cell f0 1).trans rfl
  have c1' : W1.cell? ⟨w.heap.size + 1, 0, none⟩ = some (.int .i64 n) := (blk_cell f1 0).trans rfl
  have HQ := Aside0.mk (filter_of (c := c) 33 #[.pointer (some ⟨w.heap.size + 1, 0, none⟩)] (enters_of Try.func33 (by kernel_rfl) rfl) (fun x => x.f1 == n) (Kd.C_below HC.out HB1.out) HM.out (fun x _ W hW => kid1_of x n _ W (pw_cell_below hW c1')))
  clear f0 f1 hB1 c1'
  go_wp2_with (go_at_call 32; refine HQ.out.mono ?_; rintro e w' ⟨v0, rfl, ho, hb⟩)
  go_ret
  exact ⟨_, rfl, Kd.R_lower ho (below_size HB1.out), below_step HB1.out hb⟩
end Go.Proofs.Ytkehglgehbfcmaa.PFnExactSelfTimes
