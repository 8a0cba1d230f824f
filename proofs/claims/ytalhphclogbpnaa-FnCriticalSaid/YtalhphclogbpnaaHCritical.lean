/- The program's CriticalPath: what it computes, as the printed functions want their callees. -/
import Derived.Test.YtalhphclogbpnaaHPathBack
import Derived.Test.YtalhphclogbpnaaHImplTrace
import Derived.StillTailTactics
import Derived.Laws.EntriesVeiled
namespace Go.Proofs.Ytalhphclogbpnaa.PFnCritical
open Go.RowKit Go.Shelf Go.Proofs.YtalhphclogbpnaaW.PrintWords Go.Proofs.YtalhphclogbpnaaW.PrintLast Go.Proofs.YtalhphclogbpnaaW.PrintMore
set_option linter.unusedVariables false
set_option linter.unusedSimpArgs false
def impl_CriticalPath.f (k : Nat) (a0_0 : Int) (l0_1 : List SC) : Option (List SP) := (impl_GoodTrace.f a0_0 l0_1).bind fun t => if t = true then (if 0 < l0_1.length ∧ l0_1.length ≤ 1048576 then (pathF l0_1 k (rd_T34 l0_1 0) (rd_T34 l0_1 0).f5 []).bind fun o => impl_PathPart.f k o else none) else some []
theorem impl_CriticalPath.mono : ∀ a0 a1 k, LeO (impl_CriticalPath.f k a0 a1) (impl_CriticalPath.f (k + 1) a0 a1) := fun a0 a1 k =>
  LeO.bind (LeO.refl _) (fun t => LeO.ite (LeO.ite (LeO.bind (fun r h => pathF_mono _ _ _ _ _ _ h) (fun o => impl_PathPart.mono o k)) (LeO.refl _)) (LeO.refl _))
theorem three_new (w : World) (o0 o1 o2 : Obj) : (((w.alloc o0).alloc o1).alloc o2).heap[w.heap.size]? = some o0 ∧ (((w.alloc o0).alloc o1).alloc o2).heap[w.heap.size + 1]? = some o1 ∧ (((w.alloc o0).alloc o1).alloc o2).heap[w.heap.size + 1 + 1]? = some o2 ∧ Below w.heap.size w (((w.alloc o0).alloc o1).alloc o2) := by
  have sz : ∀ (w : World) (o : Obj), (w.alloc o).heap.size = w.heap.size + 1 := fun w o => by first | rfl | (rw [World.alloc_eq]; exact Array.size_push _) | simp
  obtain ⟨a0, a1, hb⟩ := two_blocks w o0 o1
  have s2 : ((w.alloc o0).alloc o1).heap.size = w.heap.size + 1 + 1 := (sz (w.alloc o0) o1).trans (by rw [sz w o0])
  have b2 := blk_new ((w.alloc o0).alloc o1) o2
  rw [s2] at b2
  exact ⟨(Below.heap_alloc _ o2 _ (blk_lt a0)).trans a0, (Below.heap_alloc _ o2 _ (blk_lt a1)).trans a1, b2, below_alloc hb _⟩
set_option maxHeartbeats 4000000 in
set_option maxRecDepth 100000 in
theorem impl_CriticalPath.calls (k : Nat) (a0_0 : Int) (A0_1 : Option Addr) (c0_1 : Nat) (l0_1 : List SC) (r : List SP) (w : World) (hr0_1 : Kd.C k34 w A0_1 l0_1.length l0_1) (hc0_1 : l0_1.length ≤ c0_1) (h : impl_CriticalPath.f k a0_0 l0_1 = some r) :
    Calls Try.prog 5 #[.agg #[.int .i64 a0_0, .slice A0_1 l0_1.length c0_1]] w fun e w' => ∃ v0_ : Value, e = .returned v0_ ∧ Kd.R k36 36 w' w.heap.size (fun _ => True) v0_ r ∧ Below w.heap.size w w' := by
  unfold impl_CriticalPath.f at h
  obtain ⟨t, ht, h⟩ := Option.bind_eq_some_iff.1 h
  have HC := Aside0.mk hr0_1
  have HG := Aside0.mk (fun (W : World) (hW : Below w.heap.size w W) => impl_GoodTrace.calls a0_0 A0_1 c0_1 l0_1 t W (Kd.C_below hr0_1 hW) hc0_1 ht)
  have HB1 := Aside0.mk (below_alloc (Below.refl w.heap.size w) (.cells #[.int .i64 a0_0, .slice A0_1 l0_1.length c0_1] 25))
  have HT := Aside0.mk (blk_new w (.cells #[.int .i64 a0_0, .slice A0_1 l0_1.length c0_1] 25))
  have HCC := Aside0.mk hc0_1
  clear ht hr0_1 hc0_1
  cases t with
  | false =>
    rw [if_neg (by decide)] at h
    obtain rfl := Option.some.inj h
    clear h HC HCC HT
    go_enter Try.func5, Try.ntmps5
    go_wp2_with (go_at_call 13; refine (HG.out _ HB1.out).mono ?_; rintro e w2 ⟨rfl, hb⟩)
    go_ret
    exact ⟨_, rfl, Kd.R_nil _ _ _ _ _, below_step HB1.out hb⟩
  | true =>
    rw [if_pos rfl] at h
    by_cases hl : 0 < l0_1.length ∧ l0_1.length ≤ 1048576
    · rw [if_pos hl] at h
      obtain ⟨o, ho, hrv⟩ := Option.bind_eq_some_iff.1 h
      have HO := Aside0.mk ho
      have HRV := Aside0.mk hrv
      have HL := Aside0.mk hl
      clear h ho hrv hl
      go_enter Try.func5, Try.ntmps5
      go_upto_region 7 with (go_at_call 13; refine (HG.out _ HB1.out).mono ?_; rintro e w2 ⟨rfl, hb⟩; have HB2 := Aside0.mk (below_step HB1.out hb); have HT2 := Aside0.mk (blk_below HT.out hb); clear hb HB1 HT HG)
      obtain ⟨n0, n1, n2, nb⟩ := three_new w2 (.cells #[.slice none 0 0] 27) (.cells #[.func (.func 14) #[] #[.pointer (some ⟨w2.heap.size, 0, none⟩)]] 45) (.cells #[.func (.func 15) #[] #[.pointer (some ⟨w.heap.size, 0, none⟩), .pointer (some ⟨w2.heap.size + 1, 0, none⟩), .pointer (some ⟨w2.heap.size + 1 + 1, 0, none⟩)]] 46)
      have HEV := Aside0.mk (EnvM.mk (blk_below HT2.out nb) n1 n2 ⟨_, n0, Kd.R_nil _ _ _ _ _⟩ (below_step HB2.out nb) (below_size HB2.out) : EnvM w w.heap.size (w2.heap.size + 1) (w2.heap.size + 1 + 1) w2.heap.size a0_0 A0_1 c0_1 l0_1 _ [])
      clear n0 n1 n2 nb HB2 HT2
      generalize ((w2.alloc (.cells #[.slice none 0 0] 27)).alloc (.cells #[.func (.func 14) #[] #[.pointer (some ⟨w2.heap.size, 0, none⟩)]] 45)).alloc (.cells #[.func (.func 15) #[] #[.pointer (some ⟨w.heap.size, 0, none⟩), .pointer (some ⟨w2.heap.size + 1, 0, none⟩), .pointer (some ⟨w2.heap.size + 1 + 1, 0, none⟩)]] 46) = W3 at HEV ⊢
      generalize w2.heap.size + 1 + 1 = gB at HEV ⊢
      generalize w2.heap.size + 1 = gP at HEV ⊢
      generalize w2.heap.size = gO at HEV ⊢
      refine wp_region_still_tail 10 (by kernel_rfl) (by kernel_rfl) ?_
      change wpStill _ _ W3.drew (fun a' => wpList _ _ _ _ a' W3.drew) _ _
      replace HEV := Aside0.mk (HEV.out.below (below_drew1 (Below.refl W3.heap.size W3)))
      generalize W3.drew = W4 at HEV ⊢
      have HC3 := Aside0.mk (Kd.C_below HC.out HEV.out.low)
      obtain ⟨ad, hA, hx0, hx1, hx2, hx3, hx4, hx5, hx6⟩ := at_T34 HC3.out 0 (by omega) (by have := HL.out; omega)
      have hcB : W4.cell? ⟨gB, 0, none⟩ = some (.func (.func 15) #[] #[.pointer (some ⟨w.heap.size, 0, none⟩), .pointer (some ⟨gP, 0, none⟩), .pointer (some ⟨gB, 0, none⟩)]) := (blk_cell HEV.out.b 0).trans rfl
      have hcT : W4.cell? ⟨w.heap.size, 1, none⟩ = some (.slice A0_1 l0_1.length c0_1) := (blk_cell HEV.out.t 1).trans rfl
      subst hA
      have hlz : (0 : Int) < (l0_1.length : Int) := by have := HL.out; omega
      have hlz' : 0 < l0_1.length := HL.out.1
      rw [show ad.add (Int.toNat 0 * 7) = ad from by cases ad; rfl] at hx0 hx1 hx2 hx3 hx4 hx5 hx6
      simp only [List.take_succ_cons, List.take_zero, List.drop_succ_cons, List.drop_zero]
      repeat still_step
      refine wpStill_nil ?_
      have HBK := Aside0.mk (back_of HC.out HL.out.2 k _ _ [] o W4 HO.out HEV.out)
      clear hx0 hx1 hx2 hx3 hx4 hx5 hx6 hcB hcT hlz hlz' HC3
      go_wp2_with (first
        | (go_at_call 15; refine HBK.out.mono ?_; rintro e w5 ⟨rfl, he, _⟩
           obtain ⟨v, ho5, hr5⟩ := he.o
           have HO5 := Aside0.mk ho5; have HR5 := Aside0.mk hr5; have HB5 := Aside0.mk he.low
           have hv5 : w5.cell? ⟨gO, 0, none⟩ = some v := (blk_cell HO5.out 0).trans rfl
           have HRE := Aside0.mk (impl_PathPart.calls k (fun k_ => some k_ = v.ownBlock) v o r w w5 HB5.out (Kd.R_tight rfl HR5.out) HRV.out)
           clear he ho5 hr5 HBK HEV)
        | (go_at_call 17; refine HRE.out.mono ?_; rintro e w6 ⟨rfl, hr6, hb6, hk6⟩
           have HO6 := Aside0.mk ((hk6.2 gO (blk_lt HO5.out) (Kd.R_ne HR5.out HO5.out (by decide))).trans HO5.out); have HR6 := Aside0.mk hr6; have HB6 := Aside0.mk hb6
           have hv6 : w6.cell? ⟨gO, 0, none⟩ = some v := (blk_cell HO6.out 0).trans rfl
           clear hr6 hb6 hk6 hv5 HRE))
      go_ret
      exact ⟨_, rfl, Kd.R_mono HR6.out (fun _ _ => trivial), HB6.out⟩
    · rw [if_neg hl] at h
      exact absurd h (by simp)
end Go.Proofs.Ytalhphclogbpnaa.PFnCritical
