/- impl.KeepTraces: the walk. -/
import Derived.Test.YthcamcmjafhehaaDoorHKeepDefs
import Derived.StillTailTactics
namespace Go.Proofs.YthcamcmjafhehaaDoor.PFnExactKeepTraces
open Go.RowKit Go.Proofs.YthcamcmjafhehaaDoorW.PrintWords Go.Proofs.YthcamcmjafhehaaDoorW.PrintLast Go.Proofs.YthcamcmjafhehaaDoorW.PrintMore
set_option linter.unusedVariables false
set_option linter.unusedSimpArgs false
set_option maxHeartbeats 8000000 in
set_option maxRecDepth 100000 in
theorem impl_KeepTraces.calls (k : Nat) (A0 : Option Addr) (c0 : Nat) (pol : List SPo) (A1 : Option Addr) (c1 : Nat) (tr : List STr) (r : List Bool) (w : World) (htab : Tab w) (hr0 : Kd.C kPo w A0 pol.length pol) (hc0 : pol.length ≤ c0) (hr1 : Kd.C kTc w A1 tr.length tr) (hc1 : tr.length ≤ c1) (h : impl_KeepTraces.f k pol tr = some r) :
    Calls Tryd.prog 9 #[.slice A0 pol.length c0, .slice A1 tr.length c1] w fun e w' => ∃ v0_ : Value, e = .returned v0_ ∧ Kd.R Kd.bool 4 w' w.heap.size (fun _ => True) v0_ r ∧ Below w.heap.size w w' := by
  have HR0 := Aside0.mk hr0
  have HC0 := Aside0.mk hc0
  have HR1 := Aside0.mk hr1
  have HC1 := Aside0.mk hc1
  have HTB := Aside0.mk (Lib.tabBelow_of_tabIs htab)
  clear hr0 hc0 hr1 hc1 htab
  unfold impl_KeepTraces.f at h
  obtain ⟨g, hg, h1⟩ := Option.bind_eq_some_iff.mp h
  clear h
  have HG := Aside0.mk hg
  clear hg
  have HB := Aside0.mk (Below.refl w.heap.size w)
  have hargs : True := trivial
  by_cases hgt : g = true
  case neg =>
    have e : g = false := Bool.eq_false_iff.2 hgt
    subst e
    rw [if_neg (by decide)] at h1
    obtain rfl := Option.some.inj h1
    clear h1 hgt
    go_enter Tryd.func9, Tryd.ntmps9
    go_wp2_with ((go_at_call 24; refine (impl_GoodPolicies.calls k _ _ pol false _ HR0.out HC0.out HG.out).mono ?_; rintro e w2 ⟨rfl, hb⟩; replace HB := Aside0.mk hb; clear hb HG))
    go_ret
    exact ⟨_, rfl, Kd.R_nil _ _ _ _ _, HB.out⟩
  subst hgt
  rw [if_pos rfl] at h1
  by_cases hlen : (tr.length : Int) > 50
  case pos =>
    rw [if_pos hlen] at h1
    obtain rfl := Option.some.inj h1
    have hlb : decide (50 < (tr.length : Int)) = true := decide_eq_true hlen
    have hlb2 : decide (50 < tr.length) = true := decide_eq_true (by omega)
    clear h1 hlen
    go_enter Tryd.func9, Tryd.ntmps9
    go_wp2_with ((go_at_call 24; refine (impl_GoodPolicies.calls k _ _ pol true _ HR0.out HC0.out HG.out).mono ?_; rintro e w2 ⟨rfl, hb⟩; replace HB := Aside0.mk hb; clear hb HG))
    go_ret
    exact ⟨_, rfl, Kd.R_nil _ _ _ _ _, HB.out⟩
  rw [if_neg hlen] at h1
  have hlb : decide (50 < (tr.length : Int)) = false := decide_eq_false hlen
  have hlb2 : decide (50 < tr.length) = false := decide_eq_false (by omega)
  have HLEN := Aside0.mk hlen
  clear hlen
  obtain ⟨b, hb0, h2⟩ := Option.bind_eq_some_iff.mp h1
  clear h1
  have HBD := Aside0.mk hb0
  clear hb0
  by_cases hbt : b = true
  case pos =>
    subst hbt
    rw [if_pos rfl] at h2
    obtain rfl := Option.some.inj h2
    clear h2
    go_enter Tryd.func9, Tryd.ntmps9
    go_wp2_with (first | (go_at_call 24; refine (impl_GoodPolicies.calls k _ _ pol true _ HR0.out HC0.out HG.out).mono ?_; rintro e w2 ⟨rfl, hb⟩; replace HB := Aside0.mk hb; clear hb HG) | (go_at_call 25; refine (bad_of A1 c1 tr true _ (Kd.C_below HR1.out HB.out) HBD.out).mono ?_; rintro e w3 ⟨rfl, hb⟩; replace HB := Aside0.mk (below_step HB.out hb); clear hb HBD))
    go_ret
    exact ⟨_, rfl, Kd.R_nil _ _ _ _ _, HB.out⟩
  have e : b = false := Bool.eq_false_iff.2 hbt
  subst e
  rw [if_neg (by decide)] at h2
  clear hbt
  by_cases hpl : pol.length ≤ 1000
  case neg => rw [if_neg hpl] at h2; cases h2
  rw [if_pos hpl] at h2
  have H := Aside0.mk h2
  have HPL := Aside0.mk hpl
  clear h2 hpl
  go_enter Tryd.func9, Tryd.ntmps9
  go_upto_region 3 with (first | (go_at_call 24; refine (impl_GoodPolicies.calls k _ _ pol true _ HR0.out HC0.out HG.out).mono ?_; rintro e w2 ⟨rfl, hb⟩; replace HB := Aside0.mk hb; clear hb HG) | (go_at_call 25; refine (bad_of A1 c1 tr false _ (Kd.C_below HR1.out HB.out) HBD.out).mono ?_; rintro e w3 ⟨rfl, hb⟩; replace HB := Aside0.mk (below_step HB.out hb); clear hb HBD))
  clear hlb hlb2
  have hpz : (0 : Int) ≤ (pol.length : Int) := by omega
  go_wp2_with (((with_reducible refine gate_dst (N := 27) rfl ?_); refine Kd.R_make (Kd.int .i64) (w0 := w) w.heap.size 3 rfl (N := 27) rfl 48 _ _ rfl (pol.length : Int) rfl rfl Tryd.underlying48 (.int .i64 0) 8 info3 rfl (by decide) (by omega) 0 (ok := fun _ => True) (okp := fun _ => True) rfl (fun _ hk => hk) trivial (by omega) (by have := HPL.out; omega) HB.out (below_size HB.out) ?_; intro v27 w4 ho hb hg_ hn_; obtain ⟨AC, cc, rfl⟩ := Kd.R_slice ho; have HO := Aside0.mk ho; replace HB := Aside0.mk hb; clear ho hb hg_ hn_))
  skip
  have hrl : (List.replicate ((pol.length : Int)).toNat (0 : Int)) = List.replicate pol.length 0 := by rw [Int.toNat_natCast]
  have hno := HO.out
  clear HO
  skip
  have HE : Aside0 (KtEnv w AC cc (List.replicate pol.length 0) (.slice none 0 0) [] w4) := ⟨HB.out, by simpa using hno, Kd.R_nil _ _ _ _ _⟩
  clear hno hrl HB hpz
  go_loopg [6, 30] tr.length (fun gg v6 v30 wr => ∃ (i : Nat) (came : List Int) (out : List Bool), v30 = .int .i64 i ∧ i ≤ tr.length ∧ tr.length - i ≤ gg ∧ Aside0 (trM k pol (tr.drop i) came out = some r) ∧ Aside0 (came.length = pol.length) ∧ Aside0 (out.length = i) ∧ Aside0 (KtEnv w AC cc came v6 out wr))
  case atStart => exact ⟨0, List.replicate pol.length 0, [], rfl, Nat.zero_le _, by omega, H, ⟨List.length_replicate⟩, ⟨rfl⟩, HE⟩
  case round =>
    clear H HE
    obtain ⟨i, came, out, rfl, hi, hg, H, HCL, HOL, HE⟩ := hrel
    by_cases hlt : i < tr.length
    case neg =>
      have e : i = tr.length := by omega
      subst e
      have hx := H.out
      rw [List.drop_length] at hx
      obtain rfl := Option.some.inj hx
      clear hx
      go_wp2
      go_ret
      exact ⟨_, rfl, HE.out.hO, HE.out.hB⟩
    case pos =>
      have hwi : wrap64 ((i : Int) + 1) = ((i + 1 : Nat) : Int) := by have := HLEN.out; unfold wrap64; omega
      have hltz : (i : Int) < (tr.length : Int) := by omega
      have hx := H.out
      rw [List.drop_eq_getElem_cons hlt] at hx
      simp only [trM] at hx
      obtain ⟨⟨came2, kept⟩, hp, hx2⟩ := Option.bind_eq_some_iff.mp hx
      have HT2 := Aside0.mk hx2
      have HPO := Aside0.mk hp
      clear H hx hx2 hp
      obtain ⟨adT, At, ct, hAT, ht0, ht1, htl, htC⟩ := at_T51 (Kd.C_below HR1.out HE.out.hB) (i : Int) (by omega) hltz
      subst hAT
      rw [Int.toNat_natCast] at ht0 ht1
      have hget : rdTc tr (i : Int) = tr[i] := by show tr.getD _ _ = _; rw [Int.toNat_natCast, List.getD_eq_getElem?_getD, List.getElem?_eq_getElem hlt]; rfl
      rw [← hget] at HPO
      dsimp only at HT2
      clear hget
      obtain ⟨t, hT⟩ : ∃ t, t = rdTc tr (i : Int) := ⟨_, rfl⟩
      rw [show rd_T51 tr (i : Int) = t from hT.symm] at ht0
      rw [show rd_T51 tr (i : Int) = t from hT.symm] at ht1
      rw [show rd_T51 tr (i : Int) = t from hT.symm] at htl
      rw [show rd_T51 tr (i : Int) = t from hT.symm] at htC
      rw [show rdTc tr (i : Int) = t from hT.symm] at HPO
      clear hT
      have HTC := Aside0.mk htC
      have HTL := Aside0.mk htl
      clear htC htl
      go_upto_region 8 with (fail)
      have HBT := Aside0.mk (blk_new wr (.cells #[.int .i64 t.f0, .slice At t.f1.length ct] 51))
      have hb := below_alloc (Below.refl wr.heap.size wr) (.cells #[.int .i64 t.f0, .slice At t.f1.length ct] 51)
      replace HE := Aside0.mk (HE.out.below hb)
      replace HTC := Aside0.mk (Kd.C_below HTC.out hb)
      clear hb ht0 ht1
      generalize wr.alloc (.cells #[.int .i64 t.f0, .slice At t.f1.length ct] 51) = w5 at HE HBT HTC ⊢
      generalize wr.heap.size = gT at HBT ⊢
      go_wp2
      go_loopg [9, 36] pol.length (fun gg v9 v36 wq => ∃ (j : Nat), v9 = .bool false ∧ v36 = .int .i64 j ∧ j ≤ pol.length ∧ pol.length - j ≤ gg ∧ Aside0 (polM k t (pol.drop j) j came = some (came2, kept)) ∧ Aside0 (KtEnv w AC cc came u6 out wq) ∧ Aside0 (wq.heap[gT]? = some (.cells #[.int .i64 t.f0, .slice At t.f1.length ct] 51 (0, 0))) ∧ Aside0 (Kd.C k60 wq At t.f1.length t.f1))
      case atStart => exact ⟨0, rfl, rfl, Nat.zero_le _, by omega, HPO, HE, HBT, HTC⟩
      case round =>
        clear HPO HE HBT HTC
        obtain ⟨j, rfl, rfl, hj, hgj, HPO, HE, HBT, HTC⟩ := hrel
        by_cases hjl : j < pol.length
        case neg =>
          have e : j = pol.length := by omega
          subst e
          have hx := HPO.out
          rw [List.drop_length] at hx
          simp only [polM, Option.some.injEq, Prod.mk.injEq] at hx
          obtain ⟨rfl, rfl⟩ := hx
          clear HPO HBT HTC
          go_wp2_with (first
            | ((with_reducible refine gate_builtin (b := .append) (xs := #[.tmp 102, .tmp 104]) rfl ?_); at_builtin
               refine Kd.R_append Kd.bool (w0 := w) w.heap.size rfl (.tmp 102) (.tmp 104) 26 4 (.bool false) 1 rfl Tryd.underlying26 info4 rfl (by decide) (by omega) u6 out (false) [.bool (false)] (fun _ => True) (fun _ => False) rfl (by first | (go_simp; done) | (go_simp; rfl)) ?aP (fun _ hk => hk.elim) ?aF ?aO ?aB ?aS ?aL ?_
               (case aP => exact rfl); (case aB => exact HE.out.hB); (case aF => exact fun _ _ => trivial); (case aO => exact HE.out.hO); (case aS => exact HE.out.hB.size); (case aL => have := HOL.out; have := HLEN.out; omega)
               intro v105 w9 ho hb hg hat
               have HE2 := Aside0.mk (HE.out.pushed ho hb hg)
               clear ho hb hg hat HE))
          go_roundg (tr.length - (i + 1))
          case measure => omega
          case rel => exact ⟨i + 1, came, out ++ [false], by first | rfl | (rw [hwi]), by omega, by omega, HT2, HCL, ⟨by rw [List.length_append, HOL.out]; rfl⟩, HE2⟩
        case pos =>
          have hwj : wrap64 ((j : Int) + 1) = ((j + 1 : Nat) : Int) := by have := HPL.out; unfold wrap64; omega
          have hjz : (j : Int) < (pol.length : Int) := by omega
          have hx := HPO.out
          rw [List.drop_eq_getElem_cons hjl] at hx
          simp only [polM] at hx
          obtain ⟨adP, hAP, hp0, hp1, hp2⟩ := at_T52 (Kd.C_below HR0.out HE.out.hB) (j : Int) (by omega) hjz
          subst hAP
          rw [Int.toNat_natCast] at hp0 hp1 hp2
          have hget : rdPo pol (j : Int) = pol[j] := by show pol.getD _ _ = _; rw [Int.toNat_natCast, List.getD_eq_getElem?_getD, List.getElem?_eq_getElem hjl]; rfl
          rw [← hget] at hx
          clear hget HPO
          obtain ⟨p, hP⟩ : ∃ p, p = rdPo pol (j : Int) := ⟨_, rfl⟩
          rw [show rd_T52 pol (j : Int) = p from hP.symm] at hp0
          rw [show rd_T52 pol (j : Int) = p from hP.symm] at hp1
          rw [show rd_T52 pol (j : Int) = p from hP.symm] at hp2
          rw [show rdPo pol (j : Int) = p from hP.symm] at hx
          clear hP
          obtain ⟨m, hm, hx⟩ := Option.bind_eq_some_iff.mp hx
          have HM := Aside0.mk hm
          have HX := Aside0.mk hx
          clear hm hx
          go_upto_region 13 with (fail)
          have HBP := Aside0.mk (blk_new wr (.cells #[.int .i64 p.f0, .int .i64 p.f1, .string p.f2] 52))
          have hb := below_alloc (Below.refl wr.heap.size wr) (.cells #[.int .i64 p.f0, .int .i64 p.f1, .string p.f2] 52)
          replace HE := Aside0.mk (HE.out.below hb)
          replace HTC := Aside0.mk (Kd.C_below HTC.out hb)
          replace HBT := Aside0.mk (blk_below HBT.out hb)
          clear hb hp0 hp1 hp2
          generalize wr.alloc (.cells #[.int .i64 p.f0, .int .i64 p.f1, .string p.f2] 52) = w6 at HE HBT HTC HBP ⊢
          generalize wr.heap.size = gP at HBP ⊢
          have hk0 : w6.cell? ⟨gP, 0, none⟩ = some (.int .i64 p.f0) := (blk_cell HBP.out 0).trans rfl
          go_upto_block 4 with (fail)
          clear hk0
          go_cut [12] (fun v12 wc => v12 = .bool m ∧ Aside0 (KtEnv w AC cc came u6 out wc) ∧ Aside0 (wc.heap[gT]? = some (.cells #[.int .i64 t.f0, .slice At t.f1.length ct] 51 (0, 0))) ∧ Aside0 (wc.heap[gP]? = some (.cells #[.int .i64 p.f0, .int .i64 p.f1, .string p.f2] 52 (0, 0))) ∧ Aside0 (Kd.C k60 wc At t.f1.length t.f1))
          case first =>
            clear HX
            have hm := HM.out
            unfold meetsM at hm
            clear HM
            by_cases e1 : p.f0 = 1
            · rw [if_pos e1] at hm
              obtain rfl := Option.some.inj hm
              have b1 : (p.f0 == 1) = true := beq_iff_eq.mpr e1
              clear e1
              clear hm
              have ht1 : w6.cell? ⟨gT, 1, none⟩ = some (.slice At t.f1.length ct) := (blk_cell HBT.out 1).trans rfl
              go_wp2_with (go_at_call 28; refine (fails_of At ct t.f1 _ HTC.out).mono ?_; rintro e w7 ⟨rfl, hb⟩; replace HE := Aside0.mk (HE.out.below hb); replace HBT := Aside0.mk (blk_below HBT.out hb); replace HBP := Aside0.mk (blk_below HBP.out hb); replace HTC := Aside0.mk (Kd.C_below HTC.out hb); clear hb ht1)
              go_meet
              case rel => exact ⟨rfl, HE, HBT, HBP, HTC⟩
            · rw [if_neg e1] at hm
              have b1 : (p.f0 == 1) = false := beq_eq_false_iff_ne.mpr e1
              clear e1
              by_cases e2 : p.f0 = 2
              · rw [if_pos e2] at hm
                have b2 : (p.f0 == 2) = true := beq_iff_eq.mpr e2
                clear e2
                by_cases hl : 0 < t.f1.length
                case neg => rw [if_neg hl] at hm; cases hm
                rw [if_pos hl] at hm
                obtain rfl := Option.some.inj hm
                clear hm
                obtain ⟨ad, hA, hx0, hx1, hx2, hx3, hx4, hx5, hx6⟩ := at_T60 HTC.out 0 (by omega) (by omega)
                subst hA
                rw [show ad.add (Int.toNat 0 * 7) = ad from by cases ad; rfl] at hx0 hx1 hx2 hx3 hx4 hx5 hx6
                have h4 := Aside0.mk hx4
                have h5 := Aside0.mk hx5
                clear hx0 hx1 hx2 hx3 hx4 hx5 hx6
                have hlz : (0 : Int) < (t.f1.length : Int) := by omega
                go_upto_region 17 with (fail)
                have hbd := below_drew1 (Below.refl w6.heap.size w6)
                replace HE := Aside0.mk (HE.out.below hbd)
                replace HBT := Aside0.mk (blk_below HBT.out hbd)
                replace HBP := Aside0.mk (blk_below HBP.out hbd)
                replace HTC := Aside0.mk (Kd.C_below HTC.out hbd)
                clear hbd
                refine start_ (n := 15) (S := fun w' => w'.cell? ⟨gT, 1, none⟩ = some (.slice (some ad) t.f1.length ct) ∧ w'.cell? ⟨ad.block, ad.off + 5, none⟩ = some (.int .i64 (rdC t.f1 0).f5) ∧ w'.cell? ⟨ad.block, ad.off + 4, none⟩ = some (.int .i64 (rdC t.f1 0).f4) ∧ w'.cell? ⟨gP, 1, none⟩ = some (.int .i64 p.f1)) (ds := []) #[false,false,false,false,false,false,false,false,false,false,false,false,false,false,false] (by kernel_rfl) rfl rfl (⟨(blk_cell HBT.out 1).trans rfl, h5.out, h4.out, (blk_cell HBP.out 1).trans rfl⟩) (fun hHeld => ?_)
                generalize w6.drew = w7 at hHeld HE HBT HBP HTC ⊢
                refine pure_ (i := 0) (N := (some 50)) (v := ?_) (a' := ?_) #[true,false,false,false,false,false,false,false,false,false,false,false,false,false,false] rfl rfl (by kernel_rfl) (fun _ _ _ h => h) (Or.inl ⟨by rfl, ?_⟩) ?_ ?_
                rotate_left
                · intro w'
                  go_simp
                  with_reducible rfl
                rotate_left
                · simp only [Act.put, List.setIfInBounds_toArray, List.set_cons_zero, List.set_cons_succ, i64_w, i32_w]
                  rfl
                refine take_ (i := 1) (N := (some 51)) (v := ?_) (a' := ?_) #[true,true,false,false,false,false,false,false,false,false,false,false,false,false,false] rfl rfl (by kernel_rfl) (fun _ _ _ h => h) (Or.inl ⟨by rfl, ?_⟩) hHeld ?_ ?_
                rotate_left
                · rintro w' ⟨s0, s1, s2, s3⟩
                  go_simp
                  with_reducible rfl
                rotate_left
                · simp only [Act.put, List.setIfInBounds_toArray, List.set_cons_zero, List.set_cons_succ, i64_w, i32_w]
                  rfl
                refine pure_ (i := 2) (N := (some 52)) (v := ?_) (a' := ?_) #[true,true,true,false,false,false,false,false,false,false,false,false,false,false,false] rfl rfl (by kernel_rfl) (fun _ _ _ h => h) (Or.inl ⟨by rfl, ?_⟩) ?_ ?_
                rotate_left
                · intro w'
                  go_simp
                  with_reducible rfl
                rotate_left
                · simp only [Act.put, List.setIfInBounds_toArray, List.set_cons_zero, List.set_cons_succ, i64_w, i32_w]
                  rfl
                refine pure_ (i := 3) (N := (some 53)) (v := ?_) (a' := ?_) #[true,true,true,true,false,false,false,false,false,false,false,false,false,false,false] rfl rfl (by kernel_rfl) (fun _ _ _ h => h) (Or.inl ⟨by rfl, ?_⟩) ?_ ?_
                rotate_left
                · intro w'
                  go_simp
                  with_reducible rfl
                rotate_left
                · simp only [Act.put, List.setIfInBounds_toArray, List.set_cons_zero, List.set_cons_succ, i64_w, i32_w]
                  rfl
                refine take_ (i := 4) (N := (some 54)) (v := ?_) (a' := ?_) #[true,true,true,true,true,false,false,false,false,false,false,false,false,false,false] rfl rfl (by kernel_rfl) (fun _ _ _ h => h) (Or.inl ⟨by rfl, ?_⟩) hHeld ?_ ?_
                rotate_left
                · rintro w' ⟨s0, s1, s2, s3⟩
                  go_simp
                  with_reducible rfl
                rotate_left
                · simp only [Act.put, List.setIfInBounds_toArray, List.set_cons_zero, List.set_cons_succ, i64_w, i32_w]
                  rfl
                refine pure_ (i := 5) (N := (some 55)) (v := ?_) (a' := ?_) #[true,true,true,true,true,true,false,false,false,false,false,false,false,false,false] rfl rfl (by kernel_rfl) (fun _ _ _ h => h) (Or.inl ⟨by rfl, ?_⟩) ?_ ?_
                rotate_left
                · intro w'
                  go_simp
                  with_reducible rfl
                rotate_left
                · simp only [Act.put, List.setIfInBounds_toArray, List.set_cons_zero, List.set_cons_succ, i64_w, i32_w]
                  rfl
                refine take_ (i := 6) (N := (some 56)) (v := ?_) (a' := ?_) #[true,true,true,true,true,true,true,false,false,false,false,false,false,false,false] rfl rfl (by kernel_rfl) (fun _ _ _ h => h) (Or.inl ⟨by rfl, ?_⟩) hHeld ?_ ?_
                rotate_left
                · rintro w' ⟨s0, s1, s2, s3⟩
                  go_simp
                  with_reducible rfl
                rotate_left
                · simp only [Act.put, List.setIfInBounds_toArray, List.set_cons_zero, List.set_cons_succ, i64_w, i32_w]
                  rfl
                refine pure_ (i := 7) (N := (some 57)) (v := ?_) (a' := ?_) #[true,true,true,true,true,true,true,true,false,false,false,false,false,false,false] rfl rfl (by kernel_rfl) (fun _ _ _ h => h) (Or.inl ⟨by rfl, ?_⟩) ?_ ?_
                rotate_left
                · intro w'
                  go_simp
                  with_reducible rfl
                rotate_left
                · simp only [Act.put, List.setIfInBounds_toArray, List.set_cons_zero, List.set_cons_succ, i64_w, i32_w]
                  rfl
                refine pure_ (i := 8) (N := (some 58)) (v := ?_) (a' := ?_) #[true,true,true,true,true,true,true,true,true,false,false,false,false,false,false] rfl rfl (by kernel_rfl) (fun _ _ _ h => h) (Or.inl ⟨by rfl, ?_⟩) ?_ ?_
                rotate_left
                · intro w'
                  go_simp
                  with_reducible rfl
                rotate_left
                · simp only [Act.put, List.setIfInBounds_toArray, List.set_cons_zero, List.set_cons_succ, i64_w, i32_w]
                  rfl
                refine take_ (i := 9) (N := (some 59)) (v := ?_) (a' := ?_) #[true,true,true,true,true,true,true,true,true,true,false,false,false,false,false] rfl rfl (by kernel_rfl) (fun _ _ _ h => h) (Or.inl ⟨by rfl, ?_⟩) hHeld ?_ ?_
                rotate_left
                · rintro w' ⟨s0, s1, s2, s3⟩
                  go_simp
                  with_reducible rfl
                rotate_left
                · simp only [Act.put, List.setIfInBounds_toArray, List.set_cons_zero, List.set_cons_succ, i64_w, i32_w]
                  rfl
                refine pure_ (i := 10) (N := (some 60)) (v := ?_) (a' := ?_) #[true,true,true,true,true,true,true,true,true,true,true,false,false,false,false] rfl rfl (by kernel_rfl) (fun _ _ _ h => h) (Or.inl ⟨by rfl, ?_⟩) ?_ ?_
                rotate_left
                · intro w'
                  go_simp
                  with_reducible rfl
                rotate_left
                · simp only [Act.put, List.setIfInBounds_toArray, List.set_cons_zero, List.set_cons_succ, i64_w, i32_w]
                  rfl
                refine pure_ (i := 11) (N := (some 61)) (v := ?_) (a' := ?_) #[true,true,true,true,true,true,true,true,true,true,true,true,false,false,false] rfl rfl (by kernel_rfl) (fun _ _ _ h => h) (Or.inl ⟨by rfl, ?_⟩) ?_ ?_
                rotate_left
                · intro w'
                  go_simp
                  with_reducible rfl
                rotate_left
                · simp only [Act.put, List.setIfInBounds_toArray, List.set_cons_zero, List.set_cons_succ, i64_w, i32_w]
                  rfl
                refine take_ (i := 12) (N := (some 62)) (v := ?_) (a' := ?_) #[true,true,true,true,true,true,true,true,true,true,true,true,true,false,false] rfl rfl (by kernel_rfl) (fun _ _ _ h => h) (Or.inl ⟨by rfl, ?_⟩) hHeld ?_ ?_
                rotate_left
                · rintro w' ⟨s0, s1, s2, s3⟩
                  go_simp
                  with_reducible rfl
                rotate_left
                · simp only [Act.put, List.setIfInBounds_toArray, List.set_cons_zero, List.set_cons_succ, i64_w, i32_w]
                  rfl
                refine pure_ (i := 13) (N := (some 63)) (v := ?_) (a' := ?_) #[true,true,true,true,true,true,true,true,true,true,true,true,true,true,false] rfl rfl (by kernel_rfl) (fun _ _ _ h => h) (Or.inl ⟨by rfl, ?_⟩) ?_ ?_
                rotate_left
                · intro w'
                  go_simp
                  with_reducible rfl
                rotate_left
                · simp only [Act.put, List.setIfInBounds_toArray, List.set_cons_zero, List.set_cons_succ, i64_w, i32_w]
                  rfl
                refine pure_ (i := 14) (N := (some 12)) (v := ?_) (a' := ?_) #[true,true,true,true,true,true,true,true,true,true,true,true,true,true,true] rfl rfl (by kernel_rfl) (fun _ _ _ h => h) (Or.inl ⟨by rfl, ?_⟩) ?_ ?_
                rotate_left
                · intro w'
                  go_simp
                  with_reducible rfl
                rotate_left
                · simp only [Act.put, List.setIfInBounds_toArray, List.set_cons_zero, List.set_cons_succ, i64_w, i32_w]
                  rfl
                refine done_ (by kernel_rfl) ?_
                clear hHeld
                try go_wp2
                go_meet
                case rel => exact ⟨rfl, HE, HBT, HBP, HTC⟩
              · rw [if_neg e2] at hm
                have b2 : (p.f0 == 2) = false := beq_eq_false_iff_ne.mpr e2
                clear e2
                by_cases e3 : p.f0 = 3
                · rw [if_pos e3] at hm
                  obtain rfl := Option.some.inj hm
                  have b3 : (p.f0 == 3) = true := beq_iff_eq.mpr e3
                  clear e3
                  clear hm
                  have ht1 : w6.cell? ⟨gT, 1, none⟩ = some (.slice At t.f1.length ct) := (blk_cell HBT.out 1).trans rfl
                  go_wp2_with (go_at_call 28; refine (service_of gP p.f0 p.f1 p.f2 At ct t.f1 _ HTC.out HBP.out).mono ?_; rintro e w7 ⟨rfl, hb⟩; replace HE := Aside0.mk (HE.out.below hb); replace HBT := Aside0.mk (blk_below HBT.out hb); replace HBP := Aside0.mk (blk_below HBP.out hb); replace HTC := Aside0.mk (Kd.C_below HTC.out hb); clear hb ht1)
                  go_meet
                  case rel => exact ⟨rfl, HE, HBT, HBP, HTC⟩
                · rw [if_neg e3] at hm
                  have b3 : (p.f0 == 3) = false := beq_eq_false_iff_ne.mpr e3
                  clear e3
                  by_cases e4 : p.f0 = 4
                  · rw [if_pos e4] at hm
                    have b4 : (p.f0 == 4) = true := beq_iff_eq.mpr e4
                    clear e4
                    obtain ⟨s, hs, hm⟩ := Option.bind_eq_some_iff.1 hm
                    by_cases hsz : s.size ≤ 1048576
                    case neg => rw [if_neg hsz] at hm; cases hm
                    rw [if_pos hsz] at hm
                    obtain ⟨mx, hmx, hm⟩ := Option.bind_eq_some_iff.1 hm
                    obtain rfl := Option.some.inj hm
                    have HS := Aside0.mk hs
                    have HMX := Aside0.mk hmx
                    have HZ := Aside0.mk hsz
                    clear hs hm hmx hsz
                    have kb := fun W : World => print_bytes (P := Tryd.prog) 9 63 5 Tryd.underlying9 Tryd.underlying63 Tryd.underlying5 s W
                    go_upto_region 21 with (fail)
                    have hbd := below_drew1 (Below.refl w6.heap.size w6)
                    replace HE := Aside0.mk (HE.out.below hbd)
                    replace HBT := Aside0.mk (blk_below HBT.out hbd)
                    replace HBP := Aside0.mk (blk_below HBP.out hbd)
                    replace HTC := Aside0.mk (Kd.C_below HTC.out hbd)
                    clear hbd
                    refine start_ (n := 10) (S := fun w' => w'.cell? ⟨gT, 0, none⟩ = some (.int .i64 t.f0) ∧ w'.cell? ⟨gP, 1, none⟩ = some (.int .i64 p.f1)) (ds := []) #[false,false,false,false,false,false,false,false,false,false] (by kernel_rfl) rfl rfl (⟨(blk_cell HBT.out 0).trans rfl, (blk_cell HBP.out 1).trans rfl⟩) (fun hHeld => ?_)
                    generalize w6.drew = w7 at hHeld HE HBT HBP HTC ⊢
                    refine pure_ (i := 0) (N := (some 72)) (v := ?_) (a' := ?_) #[true,false,false,false,false,false,false,false,false,false] rfl rfl (by kernel_rfl) (fun _ _ _ h => h) (Or.inl ⟨by rfl, ?_⟩) ?_ ?_
                    rotate_left
                    · intro w'
                      go_simp
                      with_reducible rfl
                    rotate_left
                    · simp only [Act.put, List.setIfInBounds_toArray, List.set_cons_zero, List.set_cons_succ, i64_w, i32_w]
                      rfl
                    refine take_ (i := 1) (N := (some 73)) (v := ?_) (a' := ?_) #[true,true,false,false,false,false,false,false,false,false] rfl rfl (by kernel_rfl) (fun _ _ _ h => h) (Or.inl ⟨by rfl, ?_⟩) hHeld ?_ ?_
                    rotate_left
                    · rintro w' ⟨s0, s1⟩
                      go_simp
                      with_reducible rfl
                    rotate_left
                    · simp only [Act.put, List.setIfInBounds_toArray, List.set_cons_zero, List.set_cons_succ, i64_w, i32_w]
                      rfl
                    refine pure_ (i := 6) (N := (some 78)) (v := ?_) (a' := ?_) #[true,true,false,false,false,false,true,false,false,false] rfl rfl (by kernel_rfl) (fun _ _ _ h => h) (Or.inl ⟨by rfl, ?_⟩) ?_ ?_
                    rotate_left
                    · intro w'
                      go_simp
                      with_reducible rfl
                    rotate_left
                    · simp only [Act.put, List.setIfInBounds_toArray, List.set_cons_zero, List.set_cons_succ, i64_w, i32_w]
                      rfl
                    refine take_ (i := 7) (N := (some 79)) (v := ?_) (a' := ?_) #[true,true,false,false,false,false,true,true,false,false] rfl rfl (by kernel_rfl) (fun _ _ _ h => h) (Or.inl ⟨by rfl, ?_⟩) hHeld ?_ ?_
                    rotate_left
                    · rintro w' ⟨s0, s1⟩
                      go_simp
                      with_reducible rfl
                    rotate_left
                    · simp only [Act.put, List.setIfInBounds_toArray, List.set_cons_zero, List.set_cons_succ, i64_w, i32_w]
                      rfl
                    refine one_ (i := 2) (N := (some 74)) #[true,true,true,false,false,false,true,true,false,false] rfl rfl (by kernel_rfl) (by decide) (fun K hK => ?_)
                    refine goes_ Tryd.func32 (by kernel_rfl) rfl #[.int .i64 t.f0] (by rfl) rfl rfl (by (try simp only [List.map_toArray, List.map_cons, List.map_nil]); first | done | rfl) ?_
                    with_reducible refine (impl_digitsOf.calls t.f0 s _ (Lib.TabBelow.here (Lib.TabBelow.on HTB.out HE.out.hB)) HS.out).mono ?_
                    rintro e W3 ⟨rfl, hb⟩
                    refine ⟨_, rfl, ?_⟩
                    replace HE := Aside0.mk (HE.out.below hb)
                    replace HBT := Aside0.mk (blk_below HBT.out hb)
                    replace HBP := Aside0.mk (blk_below HBP.out hb)
                    replace HTC := Aside0.mk (Kd.C_below HTC.out hb)
                    clear hb
                    refine hK.out _ _ (⟨(blk_cell HBT.out 0).trans rfl, (blk_cell HBP.out 1).trans rfl⟩) (fun hHeld2 => ?_)
                    clear hK K hHeld
                    have hHeld := hHeld2
                    clear hHeld2
                    refine norm_ (a' := ?_) ?_ ?_
                    rotate_left
                    · show Act.put _ (some 74) _ = _
                      simp only [Act.put, List.setIfInBounds_toArray, List.set_cons_zero, List.set_cons_succ, i64_w, i32_w]
                      rfl
                    refine one_ (i := 3) (N := (some 75)) #[true,true,true,true,false,false,true,true,false,false] rfl rfl (by kernel_rfl) (by decide) (fun K hK => ?_)
                    refine value_ (w1 := ?_) (v := ?_) (by rfl) rfl ?_ ?_
                    rotate_left 2
                    · go_simp
                      first | done | rfl | (constructor <;> rfl)
                    have HCB := Aside0.mk (bytes_C W3 5 s (by have := HZ.out; omega))
                    have hb : Below W3.heap.size W3 (Lib.bytesWorld W3 5 s) := bytes_below (Below.refl _ _) (Nat.le_refl _) _ _
                    replace HE := Aside0.mk (HE.out.below hb)
                    replace HBT := Aside0.mk (blk_below HBT.out hb)
                    replace HBP := Aside0.mk (blk_below HBP.out hb)
                    replace HTC := Aside0.mk (Kd.C_below HTC.out hb)
                    clear hb kb
                    refine hK.out _ _ (⟨(blk_cell HBT.out 0).trans rfl, (blk_cell HBP.out 1).trans rfl⟩) (fun hHeld2 => ?_)
                    clear hK K hHeld
                    have hHeld := hHeld2
                    clear hHeld2
                    refine norm_ (a' := ?_) ?_ ?_
                    rotate_left
                    · show Act.put _ (some 75) _ = _
                      simp only [Act.put, List.setIfInBounds_toArray, List.set_cons_zero, List.set_cons_succ, i64_w, i32_w]
                      rfl
                    refine one_ (i := 4) (N := (some 76)) #[true,true,true,true,true,false,true,true,false,false] rfl rfl (by kernel_rfl) (by decide) (fun K hK => ?_)
                    refine goes_ Tryd.func31 (by kernel_rfl) rfl #[.slice (some ⟨W3.heap.size, 0, none⟩) (bytesOf s).length (grownCap W3 s.size 0 5)] (by rfl) rfl rfl (by (try simp only [List.map_toArray, List.map_cons, List.map_nil, bytesOf_length]); first | done | rfl) ?_
                    with_reducible refine (impl_Mix.calls k _ _ (bytesOf s) mx _ HCB.out (by rw [bytesOf_length]; exact grownCap_ge _ _ _ _) HMX.out).mono ?_
                    rintro e W5 ⟨rfl, nd, rfl⟩
                    refine ⟨_, rfl, ?_⟩
                    have hb := pw_below_drewN (Below.refl (Lib.bytesWorld W3 5 s).heap.size (Lib.bytesWorld W3 5 s)) nd
                    replace HE := Aside0.mk (HE.out.below hb)
                    replace HBT := Aside0.mk (blk_below HBT.out hb)
                    replace HBP := Aside0.mk (blk_below HBP.out hb)
                    replace HTC := Aside0.mk (Kd.C_below HTC.out hb)
                    clear hb
                    refine hK.out _ _ (⟨(blk_cell HBT.out 0).trans rfl, (blk_cell HBP.out 1).trans rfl⟩) (fun hHeld2 => ?_)
                    clear hK K hHeld
                    have hHeld := hHeld2
                    clear hHeld2
                    refine norm_ (a' := ?_) ?_ ?_
                    rotate_left
                    · show Act.put _ (some 76) _ = _
                      simp only [Act.put, List.setIfInBounds_toArray, List.set_cons_zero, List.set_cons_succ, i64_w, i32_w]
                      rfl
                    refine pure_ (i := 5) (N := (some 77)) (v := ?_) (a' := ?_) #[true,true,true,true,true,true,true,true,false,false] rfl rfl (by kernel_rfl) (fun _ _ _ h => h) (Or.inl ⟨by rfl, ?_⟩) ?_ ?_
                    rotate_left
                    · intro w'
                      go_simp
                      with_reducible rfl
                    rotate_left
                    · simp only [Act.put, List.setIfInBounds_toArray, List.set_cons_zero, List.set_cons_succ, i64_w, i32_w]
                      rfl
                    refine pure_ (i := 8) (N := (some 80)) (v := ?_) (a' := ?_) #[true,true,true,true,true,true,true,true,true,false] rfl rfl (by kernel_rfl) (fun _ _ _ h => h) (Or.inl ⟨by rfl, ?_⟩) ?_ ?_
                    rotate_left
                    · intro w'
                      go_simp
                      with_reducible rfl
                    rotate_left
                    · simp only [Act.put, List.setIfInBounds_toArray, List.set_cons_zero, List.set_cons_succ, i64_w, i32_w]
                      rfl
                    refine pure_ (i := 9) (N := (some 12)) (v := ?_) (a' := ?_) #[true,true,true,true,true,true,true,true,true,true] rfl rfl (by kernel_rfl) (fun _ _ _ h => h) (Or.inl ⟨by rfl, ?_⟩) ?_ ?_
                    rotate_left
                    · intro w'
                      go_simp
                      with_reducible rfl
                    rotate_left
                    · simp only [Act.put, List.setIfInBounds_toArray, List.set_cons_zero, List.set_cons_succ, i64_w, i32_w]
                      rfl
                    refine done_ (by kernel_rfl) ?_
                    clear hHeld
                    try go_wp2
                    go_meet
                    case rel => exact ⟨rfl, HE, HBT, HBP, HTC⟩
                  · rw [if_neg e4] at hm
                    obtain rfl := Option.some.inj hm
                    have b4 : (p.f0 == 4) = false := beq_eq_false_iff_ne.mpr e4
                    clear e4
                    clear hm
                    go_wp2
                    go_meet
                    case rel => exact ⟨rfl, HE, HBT, HBP, HTC⟩
          case rest =>
            clear HE HBT HBP HTC HM
            obtain ⟨rfl, HE, HBT, HBP, HTC⟩ := hcut
            have hx := HX.out
            clear HX
            cases m with
            | false =>
              rw [if_neg (by decide)] at hx
              have HPO := Aside0.mk hx
              clear hx HBP
              go_wp2
              go_roundg (pol.length - (j + 1))
              case measure => omega
              case rel => exact ⟨j + 1, rfl, by first | rfl | (rw [hwj]), by omega, by omega, HPO, HE, HBT, HTC⟩
            | true =>
              rw [if_pos rfl] at hx
              simp only [Option.some.injEq, Prod.mk.injEq] at hx
              obtain ⟨rfl, rfl⟩ := hx
              clear HBT HTC
              have hjc : j < came.length := by rw [HCL.out]; exact hjl
              have hjcz : (j : Int) < (came.length : Int) := by omega
              have hjp : (j : Int) < (pol.length : Int) := hjz
              obtain ⟨G, rfl⟩ := HE.out.form (by omega)
              obtain ⟨hcj, hfj⟩ := HE.out.cell j hjc
              have hgne := HE.out.ne (by omega) HBP.out (by decide)
              have HCL2 := HCL.out
              skip
              go_upto_region 24 with (fail)
              clear hcj hfj
              replace HE := Aside0.mk (HE.out.bump j hjc (wrap64 (rd came (j : Int) + 1)))
              generalize hw8 : wc.setCell ⟨G, j, none⟩ (.int .i64 (wrap64 (rd came (j : Int) + 1))) = w8 at HE ⊢
              replace HBP : Aside0 (w8.heap[gP]? = some (.cells #[.int .i64 p.f0, .int .i64 p.f1, .string p.f2] 52 (0, 0))) := ⟨by rw [← hw8]; exact blk_far HBP.out (p := ⟨G, j, none⟩) hgne _⟩
              clear hw8
              have hbd := below_drew1 (Below.refl w8.heap.size w8)
              replace HE := Aside0.mk (HE.out.below hbd)
              replace HBP := Aside0.mk (blk_below HBP.out hbd)
              clear hbd
              have hjc2 : j < (came.set j (wrap64 (rd came (j : Int) + 1))).length := by rw [List.length_set]; exact hjc
              by_cases e5 : p.f0 = 5
              · skip
                have b5 : (p.f0 == 5) = true := beq_iff_eq.mpr e5
                have b5n : (p.f0 != 5) = false := bne_eq_false_iff_eq.mpr e5
                refine start_ (n := 13) (S := fun w' => w'.cell? ⟨gP, 0, none⟩ = some (.int .i64 p.f0) ∧ w'.cell? ⟨G, j, none⟩ = some (.int .i64 (rd (bumpM came j) (j : Int))) ∧ w'.cell? ⟨gP, 1, none⟩ = some (.int .i64 p.f1)) (ds := []) #[false,false,false,false,false,false,false,false,false,false,false,false,false] (by kernel_rfl) rfl rfl (⟨(blk_cell HBP.out 0).trans rfl, (HE.out.cell j hjc2).1, (blk_cell HBP.out 1).trans rfl⟩) (fun hHeld => ?_)
                generalize w8.drew = w10 at hHeld HE HBP ⊢
                refine pure_ (i := 0) (N := (some 89)) (v := ?_) (a' := ?_) #[true,false,false,false,false,false,false,false,false,false,false,false,false] rfl rfl (by kernel_rfl) (fun _ _ _ h => h) (Or.inl ⟨by rfl, ?_⟩) ?_ ?_
                rotate_left
                · intro w'
                  go_simp
                  with_reducible rfl
                rotate_left
                · simp only [Act.put, List.setIfInBounds_toArray, List.set_cons_zero, List.set_cons_succ, i64_w, i32_w]
                  rfl
                refine take_ (i := 1) (N := (some 90)) (v := ?_) (a' := ?_) #[true,true,false,false,false,false,false,false,false,false,false,false,false] rfl rfl (by kernel_rfl) (fun _ _ _ h => h) (Or.inl ⟨by rfl, ?_⟩) hHeld ?_ ?_
                rotate_left
                · rintro w' ⟨s0, s1, s2⟩
                  go_simp
                  with_reducible rfl
                rotate_left
                · simp only [Act.put, List.setIfInBounds_toArray, List.set_cons_zero, List.set_cons_succ, i64_w, i32_w]
                  rfl
                refine pure_ (i := 2) (N := (some 91)) (v := .bool false) (a' := ?_) #[true,true,true,false,false,false,false,false,false,false,false,false,false] rfl rfl (by kernel_rfl) (fun _ _ _ h => h) (Or.inl ⟨by rfl, ?_⟩) ?_ ?_
                · intro w'
                  go_simp
                  first | done | rfl | (rw [if_pos (by decide), if_pos (by decide)]; rfl) | (congr 3; done) | (congr 3; kernel_rfl)
                rotate_left
                · simp only [Act.put, List.setIfInBounds_toArray, List.set_cons_zero, List.set_cons_succ, i64_w, i32_w]
                  rfl
                refine pure_ (i := 3) (N := (some 92)) (v := .bool false) (a' := ?_) #[true,true,true,true,false,false,false,false,false,false,false,false,false] rfl rfl (by kernel_rfl) (fun _ _ _ h => h) (Or.inl ⟨by rfl, ?_⟩) ?_ ?_
                · intro w'
                  go_simp
                  first | done | rfl | (rw [if_pos (by decide), if_pos (by decide)]; rfl) | (congr 3; done) | (congr 3; kernel_rfl)
                rotate_left
                · simp only [Act.put, List.setIfInBounds_toArray, List.set_cons_zero, List.set_cons_succ, i64_w, i32_w]
                  rfl
                refine pure_ (i := 4) (N := (some 93)) (v := ?_) (a' := ?_) #[true,true,true,true,true,false,false,false,false,false,false,false,false] rfl rfl (by kernel_rfl) (fun _ _ _ h => h) (Or.inl ⟨by rfl, ?_⟩) ?_ ?_
                rotate_left
                · intro w'
                  go_simp
                  with_reducible rfl
                rotate_left
                · simp only [Act.put, List.setIfInBounds_toArray, List.set_cons_zero, List.set_cons_succ, i64_w, i32_w]
                  rfl
                refine pure_ (i := 5) (N := (some 94)) (v := ?_) (a' := ?_) #[true,true,true,true,true,true,false,false,false,false,false,false,false] rfl rfl (by kernel_rfl) (fun _ _ _ h => h) (Or.inl ⟨by rfl, ?_⟩) ?_ ?_
                rotate_left
                · intro w'
                  go_simp
                  with_reducible rfl
                rotate_left
                · simp only [Act.put, List.setIfInBounds_toArray, List.set_cons_zero, List.set_cons_succ, i64_w, i32_w]
                  rfl
                refine pure_ (i := 6) (N := (some 95)) (v := ?_) (a' := ?_) #[true,true,true,true,true,true,true,false,false,false,false,false,false] rfl rfl (by kernel_rfl) (fun _ _ _ h => h) (Or.inl ⟨by rfl, ?_⟩) ?_ ?_
                rotate_left
                · intro w'
                  go_simp
                  with_reducible rfl
                rotate_left
                · simp only [Act.put, List.setIfInBounds_toArray, List.set_cons_zero, List.set_cons_succ, i64_w, i32_w]
                  rfl
                refine take_ (i := 7) (N := (some 96)) (v := ?_) (a' := ?_) #[true,true,true,true,true,true,true,true,false,false,false,false,false] rfl rfl (by kernel_rfl) (fun _ _ _ h => h) (Or.inl ⟨by rfl, ?_⟩) hHeld ?_ ?_
                rotate_left
                · rintro w' ⟨s0, s1, s2⟩
                  go_simp
                  with_reducible rfl
                rotate_left
                · simp only [Act.put, List.setIfInBounds_toArray, List.set_cons_zero, List.set_cons_succ, i64_w, i32_w]
                  rfl
                refine pure_ (i := 8) (N := (some 97)) (v := ?_) (a' := ?_) #[true,true,true,true,true,true,true,true,true,false,false,false,false] rfl rfl (by kernel_rfl) (fun _ _ _ h => h) (Or.inl ⟨by rfl, ?_⟩) ?_ ?_
                rotate_left
                · intro w'
                  go_simp
                  with_reducible rfl
                rotate_left
                · simp only [Act.put, List.setIfInBounds_toArray, List.set_cons_zero, List.set_cons_succ, i64_w, i32_w]
                  rfl
                refine take_ (i := 9) (N := (some 98)) (v := ?_) (a' := ?_) #[true,true,true,true,true,true,true,true,true,true,false,false,false] rfl rfl (by kernel_rfl) (fun _ _ _ h => h) (Or.inl ⟨by rfl, ?_⟩) hHeld ?_ ?_
                rotate_left
                · rintro w' ⟨s0, s1, s2⟩
                  go_simp
                  with_reducible rfl
                rotate_left
                · simp only [Act.put, List.setIfInBounds_toArray, List.set_cons_zero, List.set_cons_succ, i64_w, i32_w]
                  rfl
                refine pure_ (i := 10) (N := (some 99)) (v := ?_) (a' := ?_) #[true,true,true,true,true,true,true,true,true,true,true,false,false] rfl rfl (by kernel_rfl) (fun _ _ _ h => h) (Or.inl ⟨by rfl, ?_⟩) ?_ ?_
                rotate_left
                · intro w'
                  go_simp
                  with_reducible rfl
                rotate_left
                · simp only [Act.put, List.setIfInBounds_toArray, List.set_cons_zero, List.set_cons_succ, i64_w, i32_w]
                  rfl
                refine pure_ (i := 11) (N := (some 100)) (v := .bool (decide (rd (bumpM came j) (j : Int) ≤ p.f1))) (a' := ?_) #[true,true,true,true,true,true,true,true,true,true,true,true,false] rfl rfl (by kernel_rfl) (fun _ _ _ h => h) (Or.inl ⟨by rfl, ?_⟩) ?_ ?_
                · intro w'
                  go_simp
                  first | done | rfl | (rw [if_pos (by decide), if_pos (by decide)]; rfl) | (congr 3; done) | (congr 3; kernel_rfl)
                rotate_left
                · simp only [Act.put, List.setIfInBounds_toArray, List.set_cons_zero, List.set_cons_succ, i64_w, i32_w]
                  rfl
                refine pure_ (i := 12) (N := (some 9)) (v := ?_) (a' := ?_) #[true,true,true,true,true,true,true,true,true,true,true,true,true] rfl rfl (by kernel_rfl) (fun _ _ _ h => h) (Or.inl ⟨by rfl, ?_⟩) ?_ ?_
                rotate_left
                · intro w'
                  go_simp
                  with_reducible rfl
                rotate_left
                · simp only [Act.put, List.setIfInBounds_toArray, List.set_cons_zero, List.set_cons_succ, i64_w, i32_w]
                  rfl
                refine done_ (by kernel_rfl) ?_
                clear hHeld HBP
                rw [if_pos e5] at HT2
                go_wp2_with (first
                  | ((with_reducible refine gate_builtin (b := .append) (xs := #[.tmp 102, .tmp 104]) rfl ?_); at_builtin
                     refine Kd.R_append Kd.bool (w0 := w) w.heap.size rfl (.tmp 102) (.tmp 104) 26 4 (.bool false) 1 rfl Tryd.underlying26 info4 rfl (by decide) (by omega) u6 out (decide (rd (bumpM came j) (j : Int) ≤ p.f1)) [.bool (decide (rd (bumpM came j) (j : Int) ≤ p.f1))] (fun _ => True) (fun _ => False) rfl (by first | (go_simp; done) | (go_simp; rfl)) ?aP (fun _ hk => hk.elim) ?aF ?aO ?aB ?aS ?aL ?_
                     (case aP => exact rfl); (case aB => exact HE.out.hB); (case aF => exact fun _ _ => trivial); (case aO => exact HE.out.hO); (case aS => exact HE.out.hB.size); (case aL => have := HOL.out; have := HLEN.out; omega)
                     intro v105 w9 ho hb hg hat
                     have HE2 := Aside0.mk (HE.out.pushed ho hb hg)
                     clear ho hb hg hat HE))
                go_roundg (tr.length - (i + 1))
                case measure => omega
                case rel => exact ⟨i + 1, bumpM came j, out ++ [decide (rd (bumpM came j) (j : Int) ≤ p.f1)], by first | rfl | (rw [hwi]), by omega, by omega, HT2, ⟨by unfold bumpM; rw [List.length_set]; exact HCL.out⟩, ⟨by rw [List.length_append, HOL.out]; rfl⟩, HE2⟩
              · skip
                have b5 : (p.f0 == 5) = false := beq_eq_false_iff_ne.mpr e5
                have b5n : (p.f0 != 5) = true := bne_iff_ne.mpr e5
                refine start_ (n := 13) (S := fun w' => w'.cell? ⟨gP, 0, none⟩ = some (.int .i64 p.f0) ∧ w'.cell? ⟨G, j, none⟩ = some (.int .i64 (rd (bumpM came j) (j : Int))) ∧ w'.cell? ⟨gP, 1, none⟩ = some (.int .i64 p.f1)) (ds := []) #[false,false,false,false,false,false,false,false,false,false,false,false,false] (by kernel_rfl) rfl rfl (⟨(blk_cell HBP.out 0).trans rfl, (HE.out.cell j hjc2).1, (blk_cell HBP.out 1).trans rfl⟩) (fun hHeld => ?_)
                generalize w8.drew = w10 at hHeld HE HBP ⊢
                refine pure_ (i := 0) (N := (some 89)) (v := ?_) (a' := ?_) #[true,false,false,false,false,false,false,false,false,false,false,false,false] rfl rfl (by kernel_rfl) (fun _ _ _ h => h) (Or.inl ⟨by rfl, ?_⟩) ?_ ?_
                rotate_left
                · intro w'
                  go_simp
                  with_reducible rfl
                rotate_left
                · simp only [Act.put, List.setIfInBounds_toArray, List.set_cons_zero, List.set_cons_succ, i64_w, i32_w]
                  rfl
                refine take_ (i := 1) (N := (some 90)) (v := ?_) (a' := ?_) #[true,true,false,false,false,false,false,false,false,false,false,false,false] rfl rfl (by kernel_rfl) (fun _ _ _ h => h) (Or.inl ⟨by rfl, ?_⟩) hHeld ?_ ?_
                rotate_left
                · rintro w' ⟨s0, s1, s2⟩
                  go_simp
                  with_reducible rfl
                rotate_left
                · simp only [Act.put, List.setIfInBounds_toArray, List.set_cons_zero, List.set_cons_succ, i64_w, i32_w]
                  rfl
                refine pure_ (i := 2) (N := (some 91)) (v := .bool true) (a' := ?_) #[true,true,true,false,false,false,false,false,false,false,false,false,false] rfl rfl (by kernel_rfl) (fun _ _ _ h => h) (Or.inl ⟨by rfl, ?_⟩) ?_ ?_
                · intro w'
                  go_simp
                  first | done | rfl | (rw [if_pos (by decide), if_pos (by decide)]; rfl) | (congr 3; done) | (congr 3; kernel_rfl)
                rotate_left
                · simp only [Act.put, List.setIfInBounds_toArray, List.set_cons_zero, List.set_cons_succ, i64_w, i32_w]
                  rfl
                refine pure_ (i := 3) (N := (some 92)) (v := .bool true) (a' := ?_) #[true,true,true,true,false,false,false,false,false,false,false,false,false] rfl rfl (by kernel_rfl) (fun _ _ _ h => h) (Or.inl ⟨by rfl, ?_⟩) ?_ ?_
                · intro w'
                  go_simp
                  first | done | rfl | (rw [if_pos (by decide), if_pos (by decide)]; rfl) | (congr 3; done) | (congr 3; kernel_rfl)
                rotate_left
                · simp only [Act.put, List.setIfInBounds_toArray, List.set_cons_zero, List.set_cons_succ, i64_w, i32_w]
                  rfl
                refine pure_ (i := 4) (N := (some 93)) (v := undef) (a' := ?_) #[true,true,true,true,true,false,false,false,false,false,false,false,false] rfl rfl (by kernel_rfl) (fun _ _ _ h => h) (Or.inr ⟨by rfl, rfl⟩) ?_ ?_
                rotate_left
                · simp only [Act.put, List.setIfInBounds_toArray, List.set_cons_zero, List.set_cons_succ, i64_w, i32_w]
                  rfl
                refine pure_ (i := 5) (N := (some 94)) (v := undef) (a' := ?_) #[true,true,true,true,true,true,false,false,false,false,false,false,false] rfl rfl (by kernel_rfl) (fun _ _ _ h => h) (Or.inr ⟨by rfl, rfl⟩) ?_ ?_
                rotate_left
                · simp only [Act.put, List.setIfInBounds_toArray, List.set_cons_zero, List.set_cons_succ, i64_w, i32_w]
                  rfl
                refine pure_ (i := 6) (N := (some 95)) (v := undef) (a' := ?_) #[true,true,true,true,true,true,true,false,false,false,false,false,false] rfl rfl (by kernel_rfl) (fun _ _ _ h => h) (Or.inr ⟨by rfl, rfl⟩) ?_ ?_
                rotate_left
                · simp only [Act.put, List.setIfInBounds_toArray, List.set_cons_zero, List.set_cons_succ, i64_w, i32_w]
                  rfl
                refine pure_ (i := 7) (N := (some 96)) (v := undef) (a' := ?_) #[true,true,true,true,true,true,true,true,false,false,false,false,false] rfl rfl (by kernel_rfl) (fun _ _ _ h => h) (Or.inr ⟨by rfl, rfl⟩) ?_ ?_
                rotate_left
                · simp only [Act.put, List.setIfInBounds_toArray, List.set_cons_zero, List.set_cons_succ, i64_w, i32_w]
                  rfl
                refine pure_ (i := 8) (N := (some 97)) (v := undef) (a' := ?_) #[true,true,true,true,true,true,true,true,true,false,false,false,false] rfl rfl (by kernel_rfl) (fun _ _ _ h => h) (Or.inr ⟨by rfl, rfl⟩) ?_ ?_
                rotate_left
                · simp only [Act.put, List.setIfInBounds_toArray, List.set_cons_zero, List.set_cons_succ, i64_w, i32_w]
                  rfl
                refine pure_ (i := 9) (N := (some 98)) (v := undef) (a' := ?_) #[true,true,true,true,true,true,true,true,true,true,false,false,false] rfl rfl (by kernel_rfl) (fun _ _ _ h => h) (Or.inr ⟨by rfl, rfl⟩) ?_ ?_
                rotate_left
                · simp only [Act.put, List.setIfInBounds_toArray, List.set_cons_zero, List.set_cons_succ, i64_w, i32_w]
                  rfl
                refine pure_ (i := 10) (N := (some 99)) (v := undef) (a' := ?_) #[true,true,true,true,true,true,true,true,true,true,true,false,false] rfl rfl (by kernel_rfl) (fun _ _ _ h => h) (Or.inr ⟨by rfl, rfl⟩) ?_ ?_
                rotate_left
                · simp only [Act.put, List.setIfInBounds_toArray, List.set_cons_zero, List.set_cons_succ, i64_w, i32_w]
                  rfl
                refine pure_ (i := 11) (N := (some 100)) (v := .bool true) (a' := ?_) #[true,true,true,true,true,true,true,true,true,true,true,true,false] rfl rfl (by kernel_rfl) (fun _ _ _ h => h) (Or.inl ⟨by rfl, ?_⟩) ?_ ?_
                · intro w'
                  go_simp
                  first | done | rfl | (rw [if_pos (by decide), if_pos (by decide)]; rfl) | (congr 3; done) | (congr 3; kernel_rfl)
                rotate_left
                · simp only [Act.put, List.setIfInBounds_toArray, List.set_cons_zero, List.set_cons_succ, i64_w, i32_w]
                  rfl
                refine pure_ (i := 12) (N := (some 9)) (v := ?_) (a' := ?_) #[true,true,true,true,true,true,true,true,true,true,true,true,true] rfl rfl (by kernel_rfl) (fun _ _ _ h => h) (Or.inl ⟨by rfl, ?_⟩) ?_ ?_
                rotate_left
                · intro w'
                  go_simp
                  with_reducible rfl
                rotate_left
                · simp only [Act.put, List.setIfInBounds_toArray, List.set_cons_zero, List.set_cons_succ, i64_w, i32_w]
                  rfl
                refine done_ (by kernel_rfl) ?_
                clear hHeld HBP
                rw [if_neg e5] at HT2
                go_wp2_with (first
                  | ((with_reducible refine gate_builtin (b := .append) (xs := #[.tmp 102, .tmp 104]) rfl ?_); at_builtin
                     refine Kd.R_append Kd.bool (w0 := w) w.heap.size rfl (.tmp 102) (.tmp 104) 26 4 (.bool false) 1 rfl Tryd.underlying26 info4 rfl (by decide) (by omega) u6 out (true) [.bool (true)] (fun _ => True) (fun _ => False) rfl (by first | (go_simp; done) | (go_simp; rfl)) ?aP (fun _ hk => hk.elim) ?aF ?aO ?aB ?aS ?aL ?_
                     (case aP => exact rfl); (case aB => exact HE.out.hB); (case aF => exact fun _ _ => trivial); (case aO => exact HE.out.hO); (case aS => exact HE.out.hB.size); (case aL => have := HOL.out; have := HLEN.out; omega)
                     intro v105 w9 ho hb hg hat
                     have HE2 := Aside0.mk (HE.out.pushed ho hb hg)
                     clear ho hb hg hat HE))
                go_roundg (tr.length - (i + 1))
                case measure => omega
                case rel => exact ⟨i + 1, bumpM came j, out ++ [true], by first | rfl | (rw [hwi]), by omega, by omega, HT2, ⟨by unfold bumpM; rw [List.length_set]; exact HCL.out⟩, ⟨by rw [List.length_append, HOL.out]; rfl⟩, HE2⟩
end Go.Proofs.YthcamcmjafhehaaDoor.PFnExactKeepTraces
