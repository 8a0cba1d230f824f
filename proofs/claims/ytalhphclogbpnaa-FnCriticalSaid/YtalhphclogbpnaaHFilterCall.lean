/- impl.filter at calls, with whatever function value that tells of each sample what 'g' says. -/
import Derived.Test.YtalhphclogbpnaaHTraceMap
import Derived.Shelf.Abstract
import Derived.WalkKit
import Derived.KernelRfl
import Derived.Deep.LoopGhost
namespace Go.Proofs.Ytalhphclogbpnaa.PFnCritical
open Go.RowKit Go.Shelf Go.Proofs.YtalhphclogbpnaaW.PrintWords Go.Proofs.YtalhphclogbpnaaW.PrintLast Go.Proofs.YtalhphclogbpnaaW.PrintMore
set_option linter.unusedVariables false
set_option linter.unusedSimpArgs false
abbrev rdC (l : List SC) (i : Int) : SC := rd_T34 l i
/-- What is asked of the function value: at each sample, in every later world, it tells what g tells. -/
def TellsC (F : Nat) (caps : Array Value) (g : SC → Bool) (l : List SC) (w : World) : Prop :=
  ∀ x ∈ l, ∀ W : World, Below w.heap.size w W → Calls Try.prog F (#[.agg #[.int .i64 x.f0, .int .i64 x.f1, .string x.f2, .string x.f3, .int .i64 x.f4, .int .i64 x.f5, .bool x.f6]] ++ caps) W fun e W' => e = .returned (.bool (g x)) ∧ Below W.heap.size W W'
theorem take_filter_yes {α : Type} (l : List α) (g : α → Bool) (i : Nat) (h : i < l.length) (hg : g l[i] = true) : (l.take (i + 1)).filter g = (l.take i).filter g ++ [l[i]] := by
  rw [List.take_succ_eq_append_getElem h, List.filter_append, List.filter_cons_of_pos hg, List.filter_nil]
theorem take_filter_no {α : Type} (l : List α) (g : α → Bool) (i : Nat) (h : i < l.length) (hg : g l[i] = false) : (l.take (i + 1)).filter g = (l.take i).filter g := by
  rw [List.take_succ_eq_append_getElem h, List.filter_append, List.filter_cons_of_neg (by simp [hg]), List.filter_nil, List.append_nil]
theorem take_filter_len {α : Type} (l : List α) (g : α → Bool) (i : Nat) : ((l.take i).filter g).length ≤ l.length :=
  Nat.le_trans (List.length_filter_le _ _) (List.length_take_le' _ _)
set_option maxHeartbeats 8000000 in
set_option maxRecDepth 100000 in
theorem filter_of (F : Nat) (caps : Array Value) (eg : ∀ args w, (callFunc F args).run Try.prog w = .ok (.enter F args) w) (g : SC → Bool)
    {l : List SC} {A : Option Addr} {c : Nat} {w : World} (hC : Kd.C k34 w A l.length l) (hmax : l.length ≤ 1048576) (hF : TellsC F caps g l w) :
    Calls Try.prog 30 #[.slice A l.length c, .func (.func F) #[] caps] w fun e w' => ∃ v0_ : Value, e = .returned v0_ ∧ Kd.R k34 34 w' w.heap.size (fun _ => True) v0_ (l.filter g) ∧ Below w.heap.size w w' := by
  have HC := Aside0.mk hC
  have HF := Aside0.mk hF
  clear hC hF
  go_enter Try.func30, Try.ntmps30
  go_wp2
  go_loopg [5, 10] l.length (fun gg v5 s10 wr => ∃ i : Nat, i ≤ l.length ∧ l.length - i ≤ gg ∧ s10 = .int .i64 i ∧ Aside0 (Kd.R k34 34 wr w.heap.size (fun _ => True) v5 ((l.take i).filter g)) ∧ Aside0 (Below w.heap.size w wr))
  case atStart => exact ⟨0, Nat.zero_le _, by omega, rfl, ⟨Kd.R_nil _ _ _ _ _⟩, ⟨by repeat (first | exact Below.refl _ _ | apply below_alloc | apply pw_below_drewN | apply below_drew1)⟩⟩
  case round =>
    obtain ⟨i, hi, hg, rfl, HO, HB⟩ := hrel
    by_cases hlt : i < l.length
    · have hltz : (i : Int) < (l.length : Int) := by omega
      have hget : rdC l (i : Int) = l[i] := by show l.getD _ _ = _; rw [Int.toNat_natCast, List.getD_eq_getElem?_getD, List.getElem?_eq_getElem hlt]; rfl
      have HCALL := Aside0.mk (show ∀ W : World, Below w.heap.size w W → Calls Try.prog F (#[.agg #[.int .i64 (rdC l (i : Int)).f0, .int .i64 (rdC l (i : Int)).f1, .string (rdC l (i : Int)).f2, .string (rdC l (i : Int)).f3, .int .i64 (rdC l (i : Int)).f4, .int .i64 (rdC l (i : Int)).f5, .bool (rdC l (i : Int)).f6]] ++ caps) W fun e W' => e = .returned (.bool (g (rdC l (i : Int)))) ∧ Below W.heap.size W W' by rw [hget]; exact HF.out _ (List.getElem_mem hlt))
      have HGET := Aside0.mk hget
      clear hget
      obtain ⟨ad, rfl, hx0, hx1, hx2, hx3, hx4, hx5, hx6⟩ := at_T34 HC.out (i : Int) (by omega) (by omega)
      rw [Int.toNat_natCast] at hx0 hx1 hx2 hx3 hx4 hx5 hx6
      replace hx0 := (HB.out.cell (World.block_lt_of_cell? w _ hx0)).trans hx0
      replace hx1 := (HB.out.cell (World.block_lt_of_cell? w _ hx1)).trans hx1
      replace hx2 := (HB.out.cell (World.block_lt_of_cell? w _ hx2)).trans hx2
      replace hx3 := (HB.out.cell (World.block_lt_of_cell? w _ hx3)).trans hx3
      replace hx4 := (HB.out.cell (World.block_lt_of_cell? w _ hx4)).trans hx4
      replace hx5 := (HB.out.cell (World.block_lt_of_cell? w _ hx5)).trans hx5
      replace hx6 := (HB.out.cell (World.block_lt_of_cell? w _ hx6)).trans hx6
      go_upto_region 5 with (fail)
      have HX := Aside0.mk (blk_new wr (.cells #[.int .i64 (rdC l (i : Int)).f0, .int .i64 (rdC l (i : Int)).f1, .string (rdC l (i : Int)).f2, .string (rdC l (i : Int)).f3, .int .i64 (rdC l (i : Int)).f4, .int .i64 (rdC l (i : Int)).f5, .bool (rdC l (i : Int)).f6] 34))
      have HB1 := Aside0.mk (below_alloc HB.out (.cells #[.int .i64 (rdC l (i : Int)).f0, .int .i64 (rdC l (i : Int)).f1, .string (rdC l (i : Int)).f2, .string (rdC l (i : Int)).f3, .int .i64 (rdC l (i : Int)).f4, .int .i64 (rdC l (i : Int)).f5, .bool (rdC l (i : Int)).f6] 34))
      have HO1 := Aside0.mk (Kd.R_alloc HO.out (.cells #[.int .i64 (rdC l (i : Int)).f0, .int .i64 (rdC l (i : Int)).f1, .string (rdC l (i : Int)).f2, .string (rdC l (i : Int)).f3, .int .i64 (rdC l (i : Int)).f4, .int .i64 (rdC l (i : Int)).f5, .bool (rdC l (i : Int)).f6] 34))
      clear hx0 hx1 hx2 hx3 hx4 hx5 hx6
      generalize wr.alloc (.cells #[.int .i64 (rdC l (i : Int)).f0, .int .i64 (rdC l (i : Int)).f1, .string (rdC l (i : Int)).f2, .string (rdC l (i : Int)).f3, .int .i64 (rdC l (i : Int)).f4, .int .i64 (rdC l (i : Int)).f5, .bool (rdC l (i : Int)).f6] 34) = W1 at HX HB1 HO1 ⊢
      generalize wr.heap.size = gX at HX ⊢
      clear HB HO
      have hX0 : W1.cell? ⟨gX, 0, none⟩ = some (.int .i64 (rdC l (i : Int)).f0) := (blk_cell HX.out 0).trans rfl
      have hX1 : W1.cell? ⟨gX, 1, none⟩ = some (.int .i64 (rdC l (i : Int)).f1) := (blk_cell HX.out 1).trans rfl
      have hX2 : W1.cell? ⟨gX, 2, none⟩ = some (.string (rdC l (i : Int)).f2) := (blk_cell HX.out 2).trans rfl
      have hX3 : W1.cell? ⟨gX, 3, none⟩ = some (.string (rdC l (i : Int)).f3) := (blk_cell HX.out 3).trans rfl
      have hX4 : W1.cell? ⟨gX, 4, none⟩ = some (.int .i64 (rdC l (i : Int)).f4) := (blk_cell HX.out 4).trans rfl
      have hX5 : W1.cell? ⟨gX, 5, none⟩ = some (.int .i64 (rdC l (i : Int)).f5) := (blk_cell HX.out 5).trans rfl
      have hX6 : W1.cell? ⟨gX, 6, none⟩ = some (.bool (rdC l (i : Int)).f6) := (blk_cell HX.out 6).trans rfl
      have hL := take_filter_len l g i
      cases hgx : g (rdC l (i : Int)) with
      | false =>
        rw [hgx] at HCALL
        have HV := Aside0.mk (take_filter_no l g i hlt (by rw [← HGET.out]; exact hgx))
        clear hgx
        go_wp2_with (go_at_fn F; refine (HCALL.out _ HB1.out).mono ?_; rintro e w3 ⟨rfl, hb⟩)
        go_roundg (l.length - (i + 1))
        case measure => omega
        case rel => exact ⟨i + 1, by omega, by omega, by go_num, ⟨by rw [HV.out]; exact Kd.R_below HO1.out hb⟩, ⟨below_step HB1.out hb⟩⟩
      | true =>
        rw [hgx] at HCALL
        have HV := Aside0.mk (show (l.take (i + 1)).filter g = (l.take i).filter g ++ [rdC l (i : Int)] by rw [HGET.out]; exact take_filter_yes l g i hlt (by rw [← HGET.out]; exact hgx))
        have HL := Aside0.mk hL
        clear hgx hL
        go_wp2_with (first
          | (go_at_fn F; refine (HCALL.out _ HB1.out).mono ?_; rintro e w3 ⟨rfl, hb⟩
             have HB3 := Aside0.mk (below_step HB1.out hb); have HO3 := Aside0.mk (Kd.R_below HO1.out hb); have HX3 := Aside0.mk ((hb.block gX (blk_lt HX.out)).trans HX.out)
             clear HB1 HO1 HX hb hX0 hX1 hX2 hX3 hX4 hX5 hX6 HCALL
             have hX0 : w3.cell? ⟨gX, 0, none⟩ = some (.int .i64 (rdC l (i : Int)).f0) := (blk_cell HX3.out 0).trans rfl
             have hX1 : w3.cell? ⟨gX, 1, none⟩ = some (.int .i64 (rdC l (i : Int)).f1) := (blk_cell HX3.out 1).trans rfl
             have hX2 : w3.cell? ⟨gX, 2, none⟩ = some (.string (rdC l (i : Int)).f2) := (blk_cell HX3.out 2).trans rfl
             have hX3 : w3.cell? ⟨gX, 3, none⟩ = some (.string (rdC l (i : Int)).f3) := (blk_cell HX3.out 3).trans rfl
             have hX4 : w3.cell? ⟨gX, 4, none⟩ = some (.int .i64 (rdC l (i : Int)).f4) := (blk_cell HX3.out 4).trans rfl
             have hX5 : w3.cell? ⟨gX, 5, none⟩ = some (.int .i64 (rdC l (i : Int)).f5) := (blk_cell HX3.out 5).trans rfl
             have hX6 : w3.cell? ⟨gX, 6, none⟩ = some (.bool (rdC l (i : Int)).f6) := (blk_cell HX3.out 6).trans rfl)
          | ((with_reducible refine gate_builtin (b := .append) (xs := #[.tmp 17, .tmp 19]) rfl ?_); at_builtin
             refine Kd.R_append k34 (w0 := w) w.heap.size rfl (.tmp 17) (.tmp 19) 23 34 (.agg #[(.int .i64 0), (.int .i64 0), (.string ⟨#[]⟩), (.string ⟨#[]⟩), (.int .i64 0), (.int .i64 0), (.bool false)]) 72 rfl Try.underlying23 info34 rfl (by decide) (by omega) u5 ((l.take i).filter g) (rdC l (i : Int)) [.int .i64 (rdC l (i : Int)).f0, .int .i64 (rdC l (i : Int)).f1, .string (rdC l (i : Int)).f2, .string (rdC l (i : Int)).f3, .int .i64 (rdC l (i : Int)).f4, .int .i64 (rdC l (i : Int)).f5, .bool (rdC l (i : Int)).f6] (fun _ => True) (fun _ => False) rfl (by first | (go_simp; done) | (go_simp; rfl)) ?aP (fun _ hk => hk.elim) ?aF ?aO ?aB ?aS ?aL ?_
             (case aP => exact k34_mkM _ _ _ (rdC l (i : Int))); (case aB => exact HB3.out); (case aF => exact fun _ _ => trivial); (case aO => exact HO3.out); (case aS => exact below_size HB3.out); (case aL => have := HL.out; omega)
             intro v1 w4 ho hb hg hat
             rw [← HV.out] at ho
             have HO4 := Aside0.mk ho; have HB4 := Aside0.mk hb
             clear HO3 HB3 HX3 hX0 hX1 hX2 hX3 hX4 hX5 hX6 ho hb hg hat HV))
        go_roundg (l.length - (i + 1))
        case measure => omega
        case rel => exact ⟨i + 1, by omega, by omega, by go_num, HO4, HB4⟩
    · obtain rfl : i = l.length := by omega
      have HV := Aside0.mk (show (l.take l.length).filter g = l.filter g by rw [List.take_length])
      go_wp2
      go_ret
      exact ⟨_, rfl, by rw [← HV.out]; exact HO.out, HB.out⟩
end Go.Proofs.Ytalhphclogbpnaa.PFnCritical
