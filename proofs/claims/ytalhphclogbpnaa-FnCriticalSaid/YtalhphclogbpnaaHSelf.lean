/- The walk of impl.SelfTimes: of each call what none of its kids has. Written by a program of this repo (selfgen.py). -/
import Derived.Test.YtalhphclogbpnaaSpanPlain
import Derived.Test.YtalhphclogbpnaaHSortS
import Derived.Test.YtalhphclogbpnaaHImplTrace
import Derived.Laws.EntriesVeiled
namespace Go.Proofs.Ytalhphclogbpnaa.PFnCritical
open Go.RowKit Go.Shelf Go.Proofs.YtalhphclogbpnaaW.PrintWords Go.Proofs.YtalhphclogbpnaaW.PrintLast Go.Proofs.YtalhphclogbpnaaW.PrintMore
attribute [local go_sem] max2_int min2_int max_two min_two
set_option linter.unusedVariables false
set_option linter.unusedSimpArgs false
def okCall (x : SC) : Bool := decide (0 ≤ x.f4) && decide (x.f4 ≤ x.f5) && decide (x.f5 ≤ 1000000000000)
def impl_SelfTimes.f (k : Nat) (a0_0 : Int) (l0_1 : List SC) : Option (List Int) := (impl_GoodTrace.f a0_0 l0_1).bind fun t => if t = true then (if l0_1.length ≤ 100 ∧ l0_1.all okCall = true then some (l0_1.map fun x => selfM x (kidsM l0_1 x.f0)) else none) else some []
theorem impl_SelfTimes.mono : ∀ a0 a1 k, LeO (impl_SelfTimes.f k a0 a1) (impl_SelfTimes.f (k + 1) a0 a1) := fun a0 a1 k => LeO.refl _
theorem okCall_of {x : SC} (h : okCall x = true) : 0 ≤ x.f4 ∧ x.f4 ≤ x.f5 ∧ x.f5 ≤ 1000000000000 := by
  unfold okCall at h
  rw [Bool.and_eq_true, Bool.and_eq_true, decide_eq_true_eq, decide_eq_true_eq, decide_eq_true_eq] at h
  exact ⟨h.1.1, h.1.2, h.2⟩
theorem wS {n : Int} (h0 : -9223372036854775808 ≤ n) (h1 : n ≤ 9223372036854775807) : IntKind.i64.wrap n = n := by rw [IntKind.wrap_i64]; omega
set_option maxHeartbeats 8000000 in
set_option maxRecDepth 100000 in
theorem impl_SelfTimes.calls (k : Nat) (a0_0 : Int) (A0_1 : Option Addr) (c0_1 : Nat) (l0_1 : List SC) (r : List Int) (w : World) (hr0_1 : Kd.C k34 w A0_1 l0_1.length l0_1) (hc0_1 : l0_1.length ≤ c0_1) (h : impl_SelfTimes.f k a0_0 l0_1 = some r) :
    Calls Try.prog 6 #[.agg #[.int .i64 a0_0, .slice A0_1 l0_1.length c0_1]] w fun e w' => ∃ v0_ : Value, e = .returned v0_ ∧ Kd.R (Kd.int .i64) 3 w' w.heap.size (fun _ => True) v0_ r ∧ Below w.heap.size w w' := by
  unfold impl_SelfTimes.f at h
  obtain ⟨t, ht, h⟩ := Option.bind_eq_some_iff.1 h
  have HC := Aside0.mk hr0_1
  have HG := Aside0.mk (fun (W : World) (hW : Below w.heap.size w W) => impl_GoodTrace.calls a0_0 A0_1 c0_1 l0_1 t W (Kd.C_below hr0_1 hW) hc0_1 ht)
  have HB1 := Aside0.mk (below_alloc (Below.refl w.heap.size w) (.cells #[.int .i64 a0_0, .slice A0_1 l0_1.length c0_1] 25))
  have HT := Aside0.mk (blk_new w (.cells #[.int .i64 a0_0, .slice A0_1 l0_1.length c0_1] 25))
  have HCC := Aside0.mk hc0_1
  clear ht hr0_1 hc0_1
  cases t with
  | false =>
    rw [if_neg (by decide)] at h
    obtain rfl := Option.some.inj h
    clear h HC HCC HT
    go_enter Try.func6, Try.ntmps6
    go_wp2_with (go_at_call 13; refine (HG.out _ HB1.out).mono ?_; rintro e w2 ⟨rfl, hb⟩)
    go_ret
    exact ⟨_, rfl, Kd.R_nil _ _ _ _ _, below_step HB1.out hb⟩
  | true =>
    rw [if_pos rfl] at h
    split at h
    case isFalse => exact absurd h (by simp)
    rename_i hl
    obtain rfl := Option.some.inj h
    have HL := Aside0.mk hl.1
    have HOK := Aside0.mk (List.all_eq_true.1 hl.2)
    clear h hl
    go_enter Try.func6, Try.ntmps6
    go_upto_region 4 with (go_at_call 13; refine (HG.out _ HB1.out).mono ?_; rintro e w2 ⟨rfl, hb⟩; have HB2 := Aside0.mk (below_step HB1.out hb); have HT2 := Aside0.mk (blk_below HT.out hb); clear hb HB1 HT HG)
    have hT1 : w2.cell? ⟨w.heap.size, 1, none⟩ = some (.slice A0_1 l0_1.length c0_1) := (blk_cell HT2.out 1).trans rfl
    go_wp2
    clear hT1
    go_loopg [3, 17] l0_1.length (fun gg v3 s17 wr => ∃ i : Nat, i ≤ l0_1.length ∧ l0_1.length - i ≤ gg ∧ s17 = .int .i64 i ∧ Aside0 (Kd.R (Kd.int .i64) 3 wr w.heap.size (fun _ => True) v3 ((l0_1.take i).map fun x => selfM x (kidsM l0_1 x.f0))) ∧ Aside0 (Below w.heap.size w wr) ∧ Aside0 (wr.heap[w.heap.size]? = some (.cells #[.int .i64 a0_0, .slice A0_1 l0_1.length c0_1] 25 (0, 0))))
    case atStart => exact ⟨0, Nat.zero_le _, by omega, rfl, ⟨Kd.R_nil _ _ _ _ _⟩, HB2, HT2⟩
    case round =>
      clear HB2 HT2
      obtain ⟨i, hi, hg, rfl, HO, HB, HT⟩ := hrel
      by_cases hlt : i < l0_1.length
      · have hltz : (i : Int) < (l0_1.length : Int) := by omega
        have hget : rdC l0_1 (i : Int) = l0_1[i] := by show l0_1.getD _ _ = _; rw [Int.toNat_natCast, List.getD_eq_getElem?_getD, List.getElem?_eq_getElem hlt]; rfl
        have hok := okCall_of (HOK.out _ (List.getElem_mem hlt))
        rw [← hget] at hok
        have HGET := Aside0.mk hget
        clear hget
        obtain ⟨ad, rfl, hx0, hx1, hx2, hx3, hx4, hx5, hx6⟩ := at_T34 HC.out (i : Int) (by omega) (by omega)
        rw [Int.toNat_natCast] at hx0 hx1 hx2 hx3 hx4 hx5 hx6
        replace hx0 := (HB.out.cell (World.block_lt_of_cell? w _ hx0)).trans hx0
        replace hx1 := (HB.out.cell (World.block_lt_of_cell? w _ hx1)).trans hx1
        replace hx2 := (HB.out.cell (World.block_lt_of_cell? w _ hx2)).trans hx2
        replace hx3 := (HB.out.cell (World.block_lt_of_cell? w _ hx3)).trans hx3
        replace hx4 := (HB.out.cell (World.block_lt_of_cell? w _ hx4)).trans hx4
        replace hx5 := (HB.out.cell (World.block_lt_of_cell? w _ hx5)).trans hx5
        replace hx6 := (HB.out.cell (World.block_lt_of_cell? w _ hx6)).trans hx6
        obtain ⟨x, hX⟩ : ∃ x, x = (rdC l0_1 (i : Int)) := ⟨_, rfl⟩
        rw [show (rd_T34 l0_1 (i : Int)) = x from hX.symm] at hx0
        rw [show (rd_T34 l0_1 (i : Int)) = x from hX.symm] at hx1
        rw [show (rd_T34 l0_1 (i : Int)) = x from hX.symm] at hx2
        rw [show (rd_T34 l0_1 (i : Int)) = x from hX.symm] at hx3
        rw [show (rd_T34 l0_1 (i : Int)) = x from hX.symm] at hx4
        rw [show (rd_T34 l0_1 (i : Int)) = x from hX.symm] at hx5
        rw [show (rd_T34 l0_1 (i : Int)) = x from hX.symm] at hx6
        rw [← hX] at hok
        have HXX := Aside0.mk hX
        clear hX
        go_upto_region 7 with (fail)
        have HX := Aside0.mk (blk_new wr (.cells #[.int .i64 x.f0, .int .i64 x.f1, .string x.f2, .string x.f3, .int .i64 x.f4, .int .i64 x.f5, .bool x.f6] 34))
        have HB1 := Aside0.mk (below_alloc HB.out (.cells #[.int .i64 x.f0, .int .i64 x.f1, .string x.f2, .string x.f3, .int .i64 x.f4, .int .i64 x.f5, .bool x.f6] 34))
        have HO1 := Aside0.mk (Kd.R_alloc HO.out (.cells #[.int .i64 x.f0, .int .i64 x.f1, .string x.f2, .string x.f3, .int .i64 x.f4, .int .i64 x.f5, .bool x.f6] 34))
        have HT1 := Aside0.mk ((Below.heap_alloc wr (.cells #[.int .i64 x.f0, .int .i64 x.f1, .string x.f2, .string x.f3, .int .i64 x.f4, .int .i64 x.f5, .bool x.f6] 34) _ (blk_lt HT.out)).trans HT.out)
        clear hx0 hx1 hx2 hx3 hx4 hx5 hx6 HB HO HT
        generalize wr.alloc (.cells #[.int .i64 x.f0, .int .i64 x.f1, .string x.f2, .string x.f3, .int .i64 x.f4, .int .i64 x.f5, .bool x.f6] 34) = W1 at HX HB1 HO1 HT1 ⊢
        generalize wr.heap.size = gX at HX ⊢
        have ht0 : W1.cell? ⟨w.heap.size, 0, none⟩ = some (.int .i64 a0_0) := (blk_cell HT1.out 0).trans rfl
        have ht1 : W1.cell? ⟨w.heap.size, 1, none⟩ = some (.slice (some ad) l0_1.length c0_1) := (blk_cell HT1.out 1).trans rfl
        have hx0 : W1.cell? ⟨gX, 0, none⟩ = some (.int .i64 x.f0) := (blk_cell HX.out 0).trans rfl
        have HK := Aside0.mk (kids_of (c := c0_1) (Kd.C_below HC.out HB1.out) (by have := HL.out; omega) a0_0 x.f0)
        have HKL := Aside0.mk (show (kidsM l0_1 x.f0).length ≤ 100 from Nat.le_trans (List.length_filter_le _ _) HL.out)
        have HKO := Aside0.mk (show ∀ y ∈ kidsM l0_1 x.f0, okCall y = true from fun y hy => HOK.out y (List.mem_filter.1 hy).1)
        go_upto_region 9 with (first
          | (go_at_call 16; refine HK.out.mono ?_; rintro e W2 ⟨v7, rfl, hr7, hb7⟩; obtain ⟨A7, c7, rfl⟩ := Kd.R_slice hr7; have HSO := Aside0.mk (sort_of (w0 := W1) hr7 hb7 (by have := HKL.out; omega)); clear hr7 hb7 HK ht0 ht1 hx0)
          | (go_at_call 18; refine HSO.out.mono ?_; rintro e W3 ⟨rfl, ks, hp, hsd, hr3, hb3⟩; have HP := Aside0.mk hp; have HSD := Aside0.mk hsd; have HR3 := Aside0.mk hr3; have HX3 := Aside0.mk (blk_below HX.out hb3); have HT3 := Aside0.mk (blk_below HT1.out hb3); have HO3 := Aside0.mk (Kd.R_below HO1.out hb3); have HB3 := Aside0.mk (below_step HB1.out hb3); clear hp hsd hr3 hb3 HSO HX HT1 HO1 HB1))
        obtain ⟨nk, hnk⟩ : ∃ n, n = (kidsM l0_1 x.f0).length := ⟨_, rfl⟩
        rw [← hnk] at HR3 ⊢
        have HNK := Aside0.mk (show ks.length = nk by rw [hnk]; exact HP.out.length_eq)
        have HNL := Aside0.mk (show nk ≤ 100 by rw [hnk]; exact HKL.out)
        clear hnk
        replace HX3 := Aside0.mk (blk_below HX3.out (below_drew1 (Below.refl W3.heap.size W3)))
        replace HT3 := Aside0.mk (blk_below HT3.out (below_drew1 (Below.refl W3.heap.size W3)))
        replace HO3 := Aside0.mk (Kd.R_drew HO3.out)
        replace HB3 := Aside0.mk (below_drew1 HB3.out)
        replace HR3 := Aside0.mk (Kd.R_drew HR3.out)
        have hX4 : W3.drew.cell? ⟨gX, 4, none⟩ = some (.int .i64 x.f4) := (blk_cell HX3.out 4).trans rfl
        refine start_ (n := 4) (S := fun w' => w'.cell? ⟨gX, 4, none⟩ = some (.int .i64 x.f4)) (ds := []) #[false,false,false,false] (by kernel_rfl) rfl rfl (hX4) (fun hHeld => ?_)
        generalize W3.drew = W4 at hHeld HX3 HT3 HO3 HB3 HR3 hX4 ⊢
        refine pure_ (i := 0) (N := (some 27)) (v := ?_) (a' := ?_) #[true,false,false,false] rfl rfl (by kernel_rfl) (fun _ _ _ h => h) (Or.inl ⟨by rfl, ?_⟩) ?_ ?_
        rotate_left
        · intro w'
          go_simp
          with_reducible rfl
        rotate_left
        · simp only [Act.put, List.setIfInBounds_toArray, List.set_cons_zero, List.set_cons_succ, i64_w, i32_w]
          rfl
        refine take_ (i := 1) (N := (some 28)) (v := ?_) (a' := ?_) #[true,true,false,false] rfl rfl (by kernel_rfl) (fun _ _ _ h => h) (Or.inl ⟨by rfl, ?_⟩) hHeld ?_ ?_
        rotate_left
        · intro w' s0
          go_simp
          with_reducible rfl
        rotate_left
        · simp only [Act.put, List.setIfInBounds_toArray, List.set_cons_zero, List.set_cons_succ, i64_w, i32_w]
          rfl
        refine pure_ (i := 2) (N := (some 7)) (v := ?_) (a' := ?_) #[true,true,true,false] rfl rfl (by kernel_rfl) (fun _ _ _ h => h) (Or.inl ⟨by rfl, ?_⟩) ?_ ?_
        rotate_left
        · intro w'
          go_simp
          with_reducible rfl
        rotate_left
        · simp only [Act.put, List.setIfInBounds_toArray, List.set_cons_zero, List.set_cons_succ, i64_w, i32_w]
          rfl
        refine pure_ (i := 3) (N := (some 8)) (v := ?_) (a' := ?_) #[true,true,true,true] rfl rfl (by kernel_rfl) (fun _ _ _ h => h) (Or.inl ⟨by rfl, ?_⟩) ?_ ?_
        rotate_left
        · intro w'
          go_simp
          with_reducible rfl
        rotate_left
        · simp only [Act.put, List.setIfInBounds_toArray, List.set_cons_zero, List.set_cons_succ, i64_w, i32_w]
          rfl
        refine done_ (by kernel_rfl) ?_
        clear hX4 hHeld
        go_wp2
        obtain ⟨fin, hfin⟩ : ∃ q, q = sweepM x.f5 ks 0 x.f4 := ⟨_, rfl⟩
        have HFIN := Aside0.mk hfin
        clear hfin
        go_loopg [7, 8, 31] nk (fun gg v7 v8 s31 wr2 => ∃ (j : Nat) (n q : Int), v7 = .int .i64 n ∧ v8 = .int .i64 q ∧ s31 = .int .i64 j ∧ j ≤ nk ∧ nk - j ≤ gg ∧ Aside0 (sweepM x.f5 (ks.drop j) n q = fin) ∧ Aside0 (0 ≤ n ∧ n ≤ j * 1000000000000 ∧ 0 ≤ q ∧ q ≤ 1000000000000) ∧ Aside0 (wr2.heap[gX]? = some (.cells #[.int .i64 x.f0, .int .i64 x.f1, .string x.f2, .string x.f3, .int .i64 x.f4, .int .i64 x.f5, .bool x.f6] 34 (0, 0))) ∧ Aside0 (wr2.heap[w.heap.size]? = some (.cells #[.int .i64 a0_0, .slice (some ad) l0_1.length c0_1] 25 (0, 0))) ∧ Aside0 (Kd.R (Kd.int .i64) 3 wr2 w.heap.size (fun _ => True) u3 ((l0_1.take i).map fun x => selfM x (kidsM l0_1 x.f0))) ∧ Aside0 (Below w.heap.size w wr2) ∧ Aside0 (Kd.R kC 34 wr2 W1.heap.size (fun _ => True) (.slice A7 nk c7) ks))
        case atStart => exact ⟨0, 0, x.f4, rfl, rfl, rfl, Nat.zero_le _, by omega, ⟨HFIN.out.symm⟩, ⟨by omega⟩, HX3, HT3, HO3, HB3, HR3⟩
        case round =>
          clear HX3 HT3 HO3 HB3 HR3
          obtain ⟨j, n, q, rfl, rfl, rfl, hj, hjg, HS, HQ, HX, HT, HO, HB, HR⟩ := hrel
          obtain ⟨hq0, hq1, hq2, hq3⟩ := HQ.out
          by_cases hlt2 : j < nk
          · have hltz2 : (j : Int) < (nk : Int) := by omega
            have hjk : j < ks.length := by have := HNK.out; omega
            have hyk := okCall_of (HKO.out _ (HP.out.mem_iff.1 (List.getElem_mem hjk)))
            have hdr := List.drop_eq_getElem_cons hjk
            have hs2 := HS.out
            rw [hdr] at hs2
            obtain ⟨ad7, e7, hy0, hy1, hy2, hy3, hy4, hy5, hy6⟩ := at_T34 (Kd.R_reads' HR.out).2.2 (j : Int) (by omega) (by omega)
            subst e7
            rw [Int.toNat_natCast] at hy0 hy1 hy2 hy3 hy4 hy5 hy6
            have hyg : rd_T34 ks (j : Int) = ks[j] := by show ks.getD _ _ = _; rw [Int.toNat_natCast, List.getD_eq_getElem?_getD, List.getElem?_eq_getElem hjk]; rfl
            rw [hyg] at hy0 hy1 hy2 hy3 hy4 hy5 hy6
            generalize ks[j] = y at hy0 hy1 hy2 hy3 hy4 hy5 hy6 hyk hs2 hdr
            clear hyg hdr
            have HS2 := Aside0.mk hs2
            clear hs2 HS
            go_upto_region 13 with (fail)
            have HY := Aside0.mk (blk_new wr (.cells #[.int .i64 y.f0, .int .i64 y.f1, .string y.f2, .string y.f3, .int .i64 y.f4, .int .i64 y.f5, .bool y.f6] 34))
            have HX5 := Aside0.mk ((Below.heap_alloc wr (.cells #[.int .i64 y.f0, .int .i64 y.f1, .string y.f2, .string y.f3, .int .i64 y.f4, .int .i64 y.f5, .bool y.f6] 34) _ (blk_lt HX.out)).trans HX.out)
            have HT5 := Aside0.mk ((Below.heap_alloc wr (.cells #[.int .i64 y.f0, .int .i64 y.f1, .string y.f2, .string y.f3, .int .i64 y.f4, .int .i64 y.f5, .bool y.f6] 34) _ (blk_lt HT.out)).trans HT.out)
            have HO5 := Aside0.mk (Kd.R_alloc HO.out (.cells #[.int .i64 y.f0, .int .i64 y.f1, .string y.f2, .string y.f3, .int .i64 y.f4, .int .i64 y.f5, .bool y.f6] 34))
            have HB5 := Aside0.mk (below_alloc HB.out (.cells #[.int .i64 y.f0, .int .i64 y.f1, .string y.f2, .string y.f3, .int .i64 y.f4, .int .i64 y.f5, .bool y.f6] 34))
            have HR5 := Aside0.mk (Kd.R_alloc HR.out (.cells #[.int .i64 y.f0, .int .i64 y.f1, .string y.f2, .string y.f3, .int .i64 y.f4, .int .i64 y.f5, .bool y.f6] 34))
            clear hy0 hy1 hy2 hy3 hy4 hy5 hy6 HX HT HO HB HR
            generalize wr.alloc (.cells #[.int .i64 y.f0, .int .i64 y.f1, .string y.f2, .string y.f3, .int .i64 y.f4, .int .i64 y.f5, .bool y.f6] 34) = W5 at HY HX5 HT5 HO5 HB5 HR5 ⊢
            generalize wr.heap.size = gY at HY ⊢
            have hY4 : W5.cell? ⟨gY, 4, none⟩ = some (.int .i64 y.f4) := (blk_cell HY.out 4).trans rfl
            have hY5 : W5.cell? ⟨gY, 5, none⟩ = some (.int .i64 y.f5) := (blk_cell HY.out 5).trans rfl
            have hX5 : W5.cell? ⟨gX, 5, none⟩ = some (.int .i64 x.f5) := (blk_cell HX5.out 5).trans rfl
            have HYY := Aside0.mk HY.out
            clear HY
            obtain ⟨m1, hm1⟩ : ∃ z : Int, (if x.f5 < y.f4 then x.f5 else y.f4) = z := ⟨_, rfl⟩
            have M1 := Aside0.mk (show minI y.f4 x.f5 = m1 from hm1)
            have b1 : 0 ≤ m1 ∧ m1 ≤ 1000000000000 := by rw [← hm1]; split <;> omega
            have w1 : IntKind.i64.wrap (m1 - q) = m1 - q := wS (by omega) (by omega)
            obtain ⟨m3, hm3⟩ : ∃ z : Int, (if x.f5 < y.f5 then x.f5 else y.f5) = z := ⟨_, rfl⟩
            have M3 := Aside0.mk (show minI y.f5 x.f5 = m3 from hm3)
            have b3 : 0 ≤ m3 ∧ m3 ≤ 1000000000000 := by rw [← hm3]; split <;> omega
            have hjz : (j : Int) ≤ 100 := by have := HNL.out; omega
            have wj : IntKind.i64.wrap ((j : Int) + 1) = (j : Int) + 1 := wS (by omega) (by omega)
            by_cases hpos : q < m1
            · have M2 := Aside0.mk (show maxI 0 (m1 - q) = (m1 - q) by unfold maxI; rw [if_pos (by omega)])
              have hp2 : 0 < m1 - q := by omega
              have w2 : IntKind.i64.wrap (n + (m1 - q)) = n + (m1 - q) := wS (by omega) (by omega)
              have w3 : IntKind.i64.wrap n = n := wS (by omega) (by omega)
              by_cases hq4 : q < m3
              · have M4 := Aside0.mk (show maxI q m3 = m3 by unfold maxI; rw [if_pos hq4])
                go_wp2
                go_roundg (nk - (j + 1))
                case measure => omega
                case rel =>
                  refine ⟨j + 1, n + (m1 - q), m3, rfl, rfl, by go_num, by omega, Nat.le_refl _, ⟨?_⟩, ⟨by omega⟩, HX5, HT5, HO5, HB5, HR5⟩
                  have h2 := HS2.out
                  rw [sweepM, M1.out, M2.out, M3.out, M4.out] at h2
                  exact h2
              · exfalso
                rw [← hm1] at hpos
                rw [← hm3] at hq4
                split at hpos <;> split at hq4 <;> omega
            · have M2 := Aside0.mk (show maxI 0 (m1 - q) = 0 by unfold maxI; rw [if_neg (by omega)])
              have hp2 : ¬ 0 < m1 - q := by omega
              have w2 : IntKind.i64.wrap (n + (m1 - q)) = n + (m1 - q) := wS (by omega) (by omega)
              have w3 : IntKind.i64.wrap n = n := wS (by omega) (by omega)
              by_cases hq4 : q < m3
              · have M4 := Aside0.mk (show maxI q m3 = m3 by unfold maxI; rw [if_pos hq4])
                go_wp2
                go_roundg (nk - (j + 1))
                case measure => omega
                case rel =>
                  refine ⟨j + 1, n, m3, rfl, rfl, by go_num, by omega, Nat.le_refl _, ⟨?_⟩, ⟨by omega⟩, HX5, HT5, HO5, HB5, HR5⟩
                  have h2 := HS2.out
                  rw [sweepM, M1.out, M2.out, M3.out, M4.out] at h2
                  rw [Int.add_zero] at h2; exact h2
              · have M4 := Aside0.mk (show maxI q m3 = q by unfold maxI; rw [if_neg hq4])
                go_wp2
                go_roundg (nk - (j + 1))
                case measure => omega
                case rel =>
                  refine ⟨j + 1, n, q, rfl, rfl, by go_num, by omega, Nat.le_refl _, ⟨?_⟩, ⟨by omega⟩, HX5, HT5, HO5, HB5, HR5⟩
                  have h2 := HS2.out
                  rw [sweepM, M1.out, M2.out, M3.out, M4.out] at h2
                  rw [Int.add_zero] at h2; exact h2
          · have ej : j = nk := by omega
            have hltz2 : ¬ (j : Int) < (nk : Int) := by omega
            have hs2 := HS.out
            rw [List.drop_eq_nil_of_le (by have := HNK.out; omega), sweepM] at hs2
            have hval : n + x.f5 - q = selfM x (kidsM l0_1 x.f0) := by
              have h5 := sweep_self x (kidsM l0_1 x.f0) ks hok.2.1 (fun y hy => (okCall_of (HKO.out y hy)).2.1) HP.out HSD.out
              rw [← HFIN.out, ← hs2] at h5
              exact h5
            have hX5 : wr.cell? ⟨gX, 5, none⟩ = some (.int .i64 x.f5) := (blk_cell HX.out 5).trans rfl
            have hjz : (j : Int) ≤ 100 := by have := HNL.out; omega
            have w1 : IntKind.i64.wrap (n + x.f5) = n + x.f5 := wS (by omega) (by omega)
            have w2 : IntKind.i64.wrap (n + x.f5 - q) = n + x.f5 - q := wS (by omega) (by omega)
            have HV := Aside0.mk (show (l0_1.take (i + 1)).map (fun x => selfM x (kidsM l0_1 x.f0)) = (l0_1.take i).map (fun x => selfM x (kidsM l0_1 x.f0)) ++ [n + x.f5 - q] by rw [List.take_succ_eq_append_getElem hlt, List.map_append, hval, HXX.out, HGET.out]; rfl)
            have HTL := Aside0.mk (show ((l0_1.take i).map fun x => selfM x (kidsM l0_1 x.f0)).length ≤ 100 by rw [List.length_map, List.length_take]; have := HL.out; omega)
            clear hval hs2 HS
            have hi100 : (i : Int) ≤ 100 := by have := HL.out; omega
            have wi : IntKind.i64.wrap ((i : Int) + 1) = (i : Int) + 1 := wS (by omega) (by omega)
            go_wp2_with (first
              | ((with_reducible refine gate_builtin (b := .append) (xs := #[.tmp 53, .tmp 60]) rfl ?_); at_builtin
                 refine Kd.R_append (Kd.int .i64) (w0 := w) w.heap.size rfl (.tmp 53) (.tmp 60) 29 3 (.int .i64 0) 8 rfl Try.underlying29 info3 rfl (by decide) (by omega) u3 ((l0_1.take i).map fun x => selfM x (kidsM l0_1 x.f0)) (n + x.f5 - q) [.int .i64 (n + x.f5 - q)] (fun _ => True) (fun _ => False) rfl (by first | rfl | (go_simp; done) | (go_simp; rfl)) ?aP (fun _ hk => hk.elim) ?aF ?aO ?aB ?aS ?aL ?_
                 (case aP => exact rfl); (case aB => exact HB.out); (case aF => exact fun _ _ => trivial); (case aO => exact HO.out); (case aS => exact below_size HB.out); (case aL => have := HTL.out; omega)
                 intro v1 w4 ho hb hg hat
                 rw [← HV.out] at ho
                 have HO4 := Aside0.mk ho; have HB4 := Aside0.mk hb
                 have HT4 := Aside0.mk (blk_grown HT.out hg (Kd.R_ne HO.out HT.out (by decide)))
                 clear HO HB HT hX5 ho hb hg hat HV))
            go_roundg (l0_1.length - (i + 1))
            case measure => omega
            case rel => exact ⟨i + 1, by omega, by omega, by go_num, HO4, HB4, HT4⟩
      · obtain rfl : i = l0_1.length := by omega
        have HV := Aside0.mk (show (l0_1.take l0_1.length).map (fun x => selfM x (kidsM l0_1 x.f0)) = l0_1.map fun x => selfM x (kidsM l0_1 x.f0) by rw [List.take_length])
        go_wp2
        go_ret
        exact ⟨_, rfl, by rw [← HV.out]; exact HO.out, HB.out⟩
end Go.Proofs.Ytalhphclogbpnaa.PFnCritical
