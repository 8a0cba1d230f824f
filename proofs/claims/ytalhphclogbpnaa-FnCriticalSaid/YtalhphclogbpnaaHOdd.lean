/- (*l1Cur).oddTrace: the walk. -/
import Derived.Test.YtalhphclogbpnaaHTrDefs
import Derived.StillTailTactics
namespace Go.Proofs.Ytalhphclogbpnaa.PFnCritical
open Go.RowKit Go.Proofs.YtalhphclogbpnaaW.PrintWords Go.Proofs.YtalhphclogbpnaaW.PrintLast Go.Proofs.YtalhphclogbpnaaW.PrintMore
set_option linter.unusedVariables false
set_option linter.unusedSimpArgs false
set_option maxHeartbeats 8000000 in
set_option maxRecDepth 100000 in
theorem spec_l1Cur_oddTrace.calls (k : Nat) (g : Nat) (s0 : List Int) (s1 s2 id : Int) (l : List SC) (id' : Int) (l' : List SC) (v : Value) (w0 w : World) (hI : IsS41 w0 w g s0 s1 s2) (hB : Below w0.heap.size w0 w) (hr : Kd.R kT 34 w w0.heap.size (fun _ => True) v l) {gV : Nat} {cV : Array Value} (hV : w.heap[gV]? = some (.cells cV 25 (0, 0))) (h : spec_l1Cur_oddTrace.f k s0 s1 s2 id l = some (id', l')) :
    Calls Try.prog 12 #[.pointer (some ⟨g, 0, none⟩), .agg #[.int .i64 id, v]] w fun e w' => ∃ v', e = .returned (.agg #[.int .i64 id', v']) ∧ Kd.R kT 34 w' w0.heap.size (fun _ => True) v' l' ∧ Below w0.heap.size w0 w' ∧ w'.heap[gV]? = some (.cells cV 25 (0, 0)) := by
  unfold spec_l1Cur_oddTrace.f at h
  obtain ⟨⟨i, i1, i2⟩, hi, hB1⟩ := Option.bind_eq_some_iff.mp h
  clear h
  dsimp only at hB1 hi
  by_cases hin : 0 ≤ i ∧ i < (l.length : Int)
  case neg => rw [if_neg hin] at hB1; cases hB1
  rw [if_pos hin] at hB1
  obtain ⟨⟨q, q1, q2⟩, hq, h⟩ := Option.bind_eq_some_iff.mp hB1
  clear hB1
  dsimp only at h hq
  obtain ⟨G, c, rfl, hG0, hG1, cells, hcells⟩ := Kd.R_form hr (by omega)
  have HP := Aside0.mk hi
  have HQ := Aside0.mk hq
  have H := Aside0.mk h
  have h0 : (0 ≤ i) = True := eq_true hin.1
  have h1 : (i < (l.length : Int)) = True := eq_true hin.2
  have HIN := Aside0.mk hin
  clear hi hq h hin
  have HH := Aside0.mk (And.intro hI (And.intro hB (And.intro hr hV)))
  clear hI hB hr hV hG0 hG1 hcells
  have hu25 := Try.underlying25
  have hu34 := Try.underlying34
  go_enter Try.func12, Try.ntmps12
  go_upto_region 1 with (fail)
  obtain ⟨hI, hB, hr, hV⟩ := HH.out
  clear HH
  have HE : Aside0 (OddEnv w0 gV cV g w.heap.size (w.heap.size + 1) G c id l s0 s1 s2 ((w.alloc (.cells #[.int .i64 id, .slice (some ⟨G, 0, none⟩) l.length c] 25)).alloc (.cells #[.int .i64 0, .slice none 0 0] 25))) := by
    have b1 := blk_new (w.alloc (.cells #[.int .i64 id, .slice (some ⟨G, 0, none⟩) l.length c] 25)) (.cells #[.int .i64 0, .slice none 0 0] 25)
    have sz : ∀ (w : World) (o : Obj), (w.alloc o).heap.size = w.heap.size + 1 := fun w o => by first | rfl | (rw [World.alloc_eq]; exact Array.size_push _) | simp
    rw [sz] at b1
    exact ⟨(hI.alloc _).alloc _, below_alloc (below_alloc hB _) _, Kd.R_alloc (Kd.R_alloc hr _) _, blk_alloc (blk_new w _) _, b1, hB.size, by have := hB.size; omega, by omega, blk_alloc (blk_alloc hV _) _, by have := blk_lt hV; omega, by have := blk_lt hV; omega⟩
  clear hI hB hr hV
  generalize hW1 : (w.alloc (.cells #[.int .i64 id, .slice (some ⟨G, 0, none⟩) l.length c] 25)).alloc (.cells #[.int .i64 0, .slice none 0 0] 25) = W1 at HE ⊢
  clear hW1
  generalize w.heap.size = gT at HE ⊢
  generalize gT + 1 = gR at HE ⊢
  replace HE := Aside0.mk HE.out.drew
  refine start_ (n := 9) (S := fun w' => w'.cell? ⟨gT, 1, none⟩ = some (.slice (some ⟨G, 0, none⟩) l.length c)) (ds := []) #[false,false,false,false,false,false,false,false,false] (by kernel_rfl) rfl rfl ((blk_cell HE.out.hT 1).trans rfl) (fun hHeld => ?_)
  generalize W1.drew = w2 at hHeld HE ⊢
  refine pure_ (i := 0) (N := (some 7)) (v := ?_) (a' := ?_) #[true,false,false,false,false,false,false,false,false] rfl rfl (by kernel_rfl) (fun _ _ _ h => h) (Or.inl ⟨by rfl, ?_⟩) ?_ ?_
  rotate_left
  · intro w'
    go_simp
    with_reducible rfl
  rotate_left
  · simp only [Act.put, List.setIfInBounds_toArray, List.set_cons_zero, List.set_cons_succ, i64_w, i32_w]
    rfl
  refine take_ (i := 1) (N := (some 8)) (v := ?_) (a' := ?_) #[true,true,false,false,false,false,false,false,false] rfl rfl (by kernel_rfl) (fun _ _ _ h => h) (Or.inl ⟨by rfl, ?_⟩) hHeld ?_ ?_
  rotate_left
  · intro w' s0
    go_simp
    with_reducible rfl
  rotate_left
  · simp only [Act.put, List.setIfInBounds_toArray, List.set_cons_zero, List.set_cons_succ, i64_w, i32_w]
    rfl
  refine pure_ (i := 2) (N := (some 9)) (v := ?_) (a' := ?_) #[true,true,true,false,false,false,false,false,false] rfl rfl (by kernel_rfl) (fun _ _ _ h => h) (Or.inl ⟨by rfl, ?_⟩) ?_ ?_
  rotate_left
  · intro w'
    go_simp
    with_reducible rfl
  rotate_left
  · simp only [Act.put, List.setIfInBounds_toArray, List.set_cons_zero, List.set_cons_succ, i64_w, i32_w]
    rfl
  refine pure_ (i := 3) (N := (some 10)) (v := ?_) (a' := ?_) #[true,true,true,true,false,false,false,false,false] rfl rfl (by kernel_rfl) (fun _ _ _ h => h) (Or.inl ⟨by rfl, ?_⟩) ?_ ?_
  rotate_left
  · intro w'
    go_simp
    with_reducible rfl
  rotate_left
  · simp only [Act.put, List.setIfInBounds_toArray, List.set_cons_zero, List.set_cons_succ, i64_w, i32_w]
    rfl
  refine take_ (i := 4) (N := (some 11)) (v := ?_) (a' := ?_) #[true,true,true,true,true,false,false,false,false] rfl rfl (by kernel_rfl) (fun _ _ _ h => h) (Or.inl ⟨by rfl, ?_⟩) hHeld ?_ ?_
  rotate_left
  · intro w' s0
    go_simp
    with_reducible rfl
  rotate_left
  · simp only [Act.put, List.setIfInBounds_toArray, List.set_cons_zero, List.set_cons_succ, i64_w, i32_w]
    rfl
  refine pure_ (i := 5) (N := (some 12)) (v := ?_) (a' := ?_) #[true,true,true,true,true,true,false,false,false] rfl rfl (by kernel_rfl) (fun _ _ _ h => h) (Or.inl ⟨by rfl, ?_⟩) ?_ ?_
  rotate_left
  · intro w'
    go_simp
    with_reducible rfl
  rotate_left
  · simp only [Act.put, List.setIfInBounds_toArray, List.set_cons_zero, List.set_cons_succ, i64_w, i32_w]
    rfl
  refine one_ (i := 6) (N := (some 13)) #[true,true,true,true,true,true,true,false,false] rfl rfl (by kernel_rfl) (by decide) (fun K hK => ?_)
  refine goes_ Try.func26 (by kernel_rfl) rfl #[.pointer (some ⟨g, 0, none⟩), .int .i64 (l.length : Int)] (by rfl) rfl rfl (by (try simp only [List.map_toArray, List.map_cons, List.map_nil]); first | done | rfl) ?_
  with_reducible refine (spec_l1Cur_pick.calls g s0 s1 s2 (l.length : Int) i i1 i2 w0 _ HE.out.hI HE.out.hB HP.out).mono ?_
  rintro e w3 ⟨rfl, hi, hb, hk⟩
  refine ⟨_, rfl, ?_⟩
  replace HE := Aside0.mk (HE.out.read hi hb hk)
  clear hi hb hk
  refine hK.out _ _ ((blk_cell HE.out.hT 1).trans rfl) (fun hHeld2 => ?_)
  clear hK K hHeld
  have hHeld := hHeld2
  clear hHeld2
  refine norm_ (a' := ?_) ?_ ?_
  rotate_left
  · show Act.put _ (some 13) _ = _
    simp only [Act.put, List.setIfInBounds_toArray, List.set_cons_zero, List.set_cons_succ, i64_w, i32_w]
    rfl
  refine pure_ (i := 7) (N := (some 14)) (v := ?_) (a' := ?_) #[true,true,true,true,true,true,true,true,false] rfl rfl (by kernel_rfl) (fun _ _ _ h => h) (Or.inl ⟨by rfl, ?_⟩) ?_ ?_
  rotate_left
  · intro w'
    go_simp
    with_reducible rfl
  rotate_left
  · simp only [Act.put, List.setIfInBounds_toArray, List.set_cons_zero, List.set_cons_succ, i64_w, i32_w]
    rfl
  refine pure_ (i := 8) (N := (some 5)) (v := ?_) (a' := ?_) #[true,true,true,true,true,true,true,true,true] rfl rfl (by kernel_rfl) (fun _ _ _ h => h) (Or.inl ⟨by rfl, ?_⟩) ?_ ?_
  rotate_left
  · intro w'
    go_simp
    with_reducible rfl
  rotate_left
  · simp only [Act.put, List.setIfInBounds_toArray, List.set_cons_zero, List.set_cons_succ, i64_w, i32_w]
    rfl
  refine done_ (by kernel_rfl) ?_
  clear hHeld
  go_upto_region 3 with (go_at_call 26; refine (spec_l1Cur_pick.calls g s0 i1 i2 16 q q1 q2 w0 _ HE.out.hI HE.out.hB HQ.out).mono ?_; rintro e w4 ⟨rfl, hi, hb, hk⟩; have HE4 := Aside0.mk (HE.out.read hi hb hk); clear hi hb hk HE)
  clear HP HQ
  have HNE : 0 < l.length := by have := HIN.out; omega
  by_cases e0 : q = 0
  · rw [if_pos e0] at H
    have b0 : (q == 0) = true := beq_iff_eq.mpr e0
    have HV := H.out
    simp only [Option.some.injEq, Prod.mk.injEq] at HV
    obtain ⟨rfl, rfl⟩ := HV
    clear H
    have hcz0 : w4.cell? ⟨gT, 0, none⟩ = some (.int .i64 id) := (blk_cell HE4.out.hT 0).trans rfl
    have hcz1 : w4.cell? ⟨gT, 1, none⟩ = some (.slice (some ⟨G, 0, none⟩) l.length c) := (blk_cell HE4.out.hT 1).trans rfl
    have hfz0 := blk_frozen HE4.out.hT 0
    have hfz1 := blk_frozen HE4.out.hT 1
    go_upto_region 21 with (fail)
    clear hcz0 hcz1 hfz0 hfz1
    have HE5 := Aside0.mk (HE4.out.setId HNE 0)
    clear HE4
    generalize w4.setCell ⟨gT, 0, none⟩ (.int .i64 0) = w5 at HE5 ⊢
    have hcz0 : w5.cell? ⟨gT, 0, none⟩ = some (.int .i64 0) := (blk_cell HE5.out.hT 0).trans rfl
    have hcz1 : w5.cell? ⟨gT, 1, none⟩ = some (.slice (some ⟨G, 0, none⟩) (l).length c) := (blk_cell HE5.out.hT 1).trans rfl
    have hfz0 := blk_frozen HE5.out.hT 0
    have hfz1 := blk_frozen HE5.out.hT 1
    have hrz0 : w5.cell? ⟨gR, 0, none⟩ = some (.int .i64 0) := (blk_cell HE5.out.hO 0).trans rfl
    have hrz1 : w5.cell? ⟨gR, 1, none⟩ = some (.slice none 0 0) := (blk_cell HE5.out.hO 1).trans rfl
    have hgz0 := blk_frozen HE5.out.hO 0
    have hgz1 := blk_frozen HE5.out.hO 1
    have hn1 := HE5.out.ne
    have hn2 := hn1.symm
    go_wp2
    refine bodyPost_ret (results_cell_row rfl _ _ gR 25 #[.int .i64 0, .slice (some ⟨G, 0, none⟩) (l).length c] (0, 0) _ rfl (blk_put (cs := #[.int .i64 0, .slice none 0 0]) (blk_put (cs := #[.int .i64 0, .slice none 0 0]) HE5.out.hO 0 _ rfl) 1 _ rfl) Try.underlying25 rfl (by kernel_rfl)) rfl ?_
    exact ⟨_, rfl, Kd.R_mono (Kd.R_far (p := ⟨gR, 1, none⟩) (Kd.R_far (p := ⟨gR, 0, none⟩) (Kd.R_types HE5.out.hR HE5.out.hO (by decide)) (fun _ hk => hk.2) _) (fun _ hk => hk.2) _) (fun _ _ => trivial), below_set (below_set HE5.out.hB HE5.out.gR_ge) HE5.out.gR_ge, blk_far (blk_far HE5.out.hV (p := ⟨gR, 0, none⟩) HE5.out.nR _) (p := ⟨gR, 1, none⟩) HE5.out.nR _⟩
  · rw [if_neg e0] at H
    have b0 : (q == 0) = false := beq_eq_false_iff_ne.mpr e0
    by_cases e1 : q = 1
    · rw [if_pos e1] at H
      have b1 : (q == 1) = true := beq_iff_eq.mpr e1
      obtain ⟨⟨r, r1, r2⟩, hr, hx⟩ := Option.bind_eq_some_iff.mp H.out
      clear H
      dsimp only at hr hx
      have HR := Aside0.mk hr
      have H := Aside0.mk hx
      clear hr hx
      have HV := H.out
      simp only [Option.some.injEq, Prod.mk.injEq] at HV
      obtain ⟨rfl, rfl⟩ := HV
      clear H
      go_upto_region 21 with (go_at_call 26; refine (spec_l1Cur_pick.calls g s0 q1 q2 4 r r1 r2 w0 _ HE4.out.hI HE4.out.hB HR.out).mono ?_; rintro e w6 ⟨rfl, hi, hb, hk⟩; have HE6 := Aside0.mk (HE4.out.read hi hb hk); clear hi hb hk HE4; obtain ⟨⟨hc0, hc1, hc2, hc3, hc4, hc5, hc6⟩, hfr⟩ := HE6.out.at i HIN.out.1 HIN.out.2; have hfx : w6.frozen? ⟨G, i.toNat * 7, none⟩ = false := hfr 0; clear hfr)
      clear hfx hc0 hc1 hc2 hc3 hc4 hc5 hc6
      have HE5 := Aside0.mk (HE6.out.put i HIN.out.1 HIN.out.2 0 (.int .i64 r) (su0 (rdT l i) r) rfl (by decide))
      clear HE6
      generalize hw5 : w6.setCell ⟨G, i.toNat * 7 + 0, none⟩ (.int .i64 r) = w5 at HE5
      clear hw5
      have hcz0 : w5.cell? ⟨gT, 0, none⟩ = some (.int .i64 id) := (blk_cell HE5.out.hT 0).trans rfl
      have hcz1 : w5.cell? ⟨gT, 1, none⟩ = some (.slice (some ⟨G, 0, none⟩) (oddPut l i (su0 (rdT l i) r)).length c) := (blk_cell HE5.out.hT 1).trans rfl
      have hfz0 := blk_frozen HE5.out.hT 0
      have hfz1 := blk_frozen HE5.out.hT 1
      have hrz0 : w5.cell? ⟨gR, 0, none⟩ = some (.int .i64 0) := (blk_cell HE5.out.hO 0).trans rfl
      have hrz1 : w5.cell? ⟨gR, 1, none⟩ = some (.slice none 0 0) := (blk_cell HE5.out.hO 1).trans rfl
      have hgz0 := blk_frozen HE5.out.hO 0
      have hgz1 := blk_frozen HE5.out.hO 1
      have hn1 := HE5.out.ne
      have hn2 := hn1.symm
      go_wp2
      refine bodyPost_ret (results_cell_row rfl _ _ gR 25 #[.int .i64 id, .slice (some ⟨G, 0, none⟩) (oddPut l i (su0 (rdT l i) r)).length c] (0, 0) _ rfl (blk_put (cs := #[.int .i64 id, .slice none 0 0]) (blk_put (cs := #[.int .i64 0, .slice none 0 0]) HE5.out.hO 0 _ rfl) 1 _ rfl) Try.underlying25 rfl (by kernel_rfl)) rfl ?_
      exact ⟨_, rfl, Kd.R_mono (Kd.R_far (p := ⟨gR, 1, none⟩) (Kd.R_far (p := ⟨gR, 0, none⟩) (Kd.R_types HE5.out.hR HE5.out.hO (by decide)) (fun _ hk => hk.2) _) (fun _ hk => hk.2) _) (fun _ _ => trivial), below_set (below_set HE5.out.hB HE5.out.gR_ge) HE5.out.gR_ge, blk_far (blk_far HE5.out.hV (p := ⟨gR, 0, none⟩) HE5.out.nR _) (p := ⟨gR, 1, none⟩) HE5.out.nR _⟩
    · rw [if_neg e1] at H
      have b1 : (q == 1) = false := beq_eq_false_iff_ne.mpr e1
      by_cases e2 : q = 2
      · rw [if_pos e2] at H
        have b2 : (q == 2) = true := beq_iff_eq.mpr e2
        obtain ⟨⟨r, r1, r2⟩, hr, hx⟩ := Option.bind_eq_some_iff.mp H.out
        clear H
        dsimp only at hr hx
        have HR := Aside0.mk hr
        have H := Aside0.mk hx
        clear hr hx
        have HV := H.out
        simp only [Option.some.injEq, Prod.mk.injEq] at HV
        obtain ⟨rfl, rfl⟩ := HV
        clear H
        go_upto_region 21 with (go_at_call 26; refine (spec_l1Cur_pick.calls g s0 q1 q2 5 r r1 r2 w0 _ HE4.out.hI HE4.out.hB HR.out).mono ?_; rintro e w6 ⟨rfl, hi, hb, hk⟩; have HE6 := Aside0.mk (HE4.out.read hi hb hk); clear hi hb hk HE4; obtain ⟨⟨hc0, hc1, hc2, hc3, hc4, hc5, hc6⟩, hfr⟩ := HE6.out.at i HIN.out.1 HIN.out.2; have hfx : w6.frozen? ⟨G, i.toNat * 7 + 1, none⟩ = false := hfr 1; clear hfr)
        clear hfx hc0 hc1 hc2 hc3 hc4 hc5 hc6
        have HE5 := Aside0.mk (HE6.out.put i HIN.out.1 HIN.out.2 1 (.int .i64 r) (su1 (rdT l i) r) rfl (by decide))
        clear HE6
        generalize hw5 : w6.setCell ⟨G, i.toNat * 7 + 1, none⟩ (.int .i64 r) = w5 at HE5
        clear hw5
        have hcz0 : w5.cell? ⟨gT, 0, none⟩ = some (.int .i64 id) := (blk_cell HE5.out.hT 0).trans rfl
        have hcz1 : w5.cell? ⟨gT, 1, none⟩ = some (.slice (some ⟨G, 0, none⟩) (oddPut l i (su1 (rdT l i) r)).length c) := (blk_cell HE5.out.hT 1).trans rfl
        have hfz0 := blk_frozen HE5.out.hT 0
        have hfz1 := blk_frozen HE5.out.hT 1
        have hrz0 : w5.cell? ⟨gR, 0, none⟩ = some (.int .i64 0) := (blk_cell HE5.out.hO 0).trans rfl
        have hrz1 : w5.cell? ⟨gR, 1, none⟩ = some (.slice none 0 0) := (blk_cell HE5.out.hO 1).trans rfl
        have hgz0 := blk_frozen HE5.out.hO 0
        have hgz1 := blk_frozen HE5.out.hO 1
        have hn1 := HE5.out.ne
        have hn2 := hn1.symm
        go_wp2
        refine bodyPost_ret (results_cell_row rfl _ _ gR 25 #[.int .i64 id, .slice (some ⟨G, 0, none⟩) (oddPut l i (su1 (rdT l i) r)).length c] (0, 0) _ rfl (blk_put (cs := #[.int .i64 id, .slice none 0 0]) (blk_put (cs := #[.int .i64 0, .slice none 0 0]) HE5.out.hO 0 _ rfl) 1 _ rfl) Try.underlying25 rfl (by kernel_rfl)) rfl ?_
        exact ⟨_, rfl, Kd.R_mono (Kd.R_far (p := ⟨gR, 1, none⟩) (Kd.R_far (p := ⟨gR, 0, none⟩) (Kd.R_types HE5.out.hR HE5.out.hO (by decide)) (fun _ hk => hk.2) _) (fun _ hk => hk.2) _) (fun _ _ => trivial), below_set (below_set HE5.out.hB HE5.out.gR_ge) HE5.out.gR_ge, blk_far (blk_far HE5.out.hV (p := ⟨gR, 0, none⟩) HE5.out.nR _) (p := ⟨gR, 1, none⟩) HE5.out.nR _⟩
      · rw [if_neg e2] at H
        have b2 : (q == 2) = false := beq_eq_false_iff_ne.mpr e2
        by_cases e3 : q = 3
        · rw [if_pos e3] at H
          have b3 : (q == 3) = true := beq_iff_eq.mpr e3
          obtain ⟨⟨r, r1, r2⟩, hr, hx⟩ := Option.bind_eq_some_iff.mp H.out
          clear H
          dsimp only at hr hx
          have HR := Aside0.mk hr
          have H := Aside0.mk hx
          clear hr hx
          have HV := H.out
          simp only [Option.some.injEq, Prod.mk.injEq] at HV
          obtain ⟨rfl, rfl⟩ := HV
          clear H
          go_upto_region 21 with (go_at_call 27; refine (spec_l1Cur_of.calls g s0 q1 q2 (some ⟨w4.heap.size, 0, none⟩) 3 [(⟨#[]⟩ : ByteArray), (⟨#[57]⟩ : ByteArray), (⟨#[100, 98]⟩ : ByteArray)] r r1 r2 w0 _ (HE4.out.alloc _).hI (HE4.out.alloc _).hB (three_texts _ _ _ _) (by decide) (fun ad e _ => by cases e; exact fun e' => absurd (IsS41.lt HE4.out.hI) (by have : w4.heap.size = g := e'; omega)) HR.out).mono ?_; rintro e w6 ⟨rfl, hi, hb, hk⟩; have HE6 := Aside0.mk ((HE4.out.alloc _).read hi hb hk); clear hi hb hk HE4; obtain ⟨⟨hc0, hc1, hc2, hc3, hc4, hc5, hc6⟩, hfr⟩ := HE6.out.at i HIN.out.1 HIN.out.2; have hfx : w6.frozen? ⟨G, i.toNat * 7 + 2, none⟩ = false := hfr 2; clear hfr)
          clear hfx hc0 hc1 hc2 hc3 hc4 hc5 hc6
          have HE5 := Aside0.mk (HE6.out.put i HIN.out.1 HIN.out.2 2 (.string r) (su2 (rdT l i) r) rfl (by decide))
          clear HE6
          generalize hw5 : w6.setCell ⟨G, i.toNat * 7 + 2, none⟩ (.string r) = w5 at HE5
          clear hw5
          have hcz0 : w5.cell? ⟨gT, 0, none⟩ = some (.int .i64 id) := (blk_cell HE5.out.hT 0).trans rfl
          have hcz1 : w5.cell? ⟨gT, 1, none⟩ = some (.slice (some ⟨G, 0, none⟩) (oddPut l i (su2 (rdT l i) r)).length c) := (blk_cell HE5.out.hT 1).trans rfl
          have hfz0 := blk_frozen HE5.out.hT 0
          have hfz1 := blk_frozen HE5.out.hT 1
          have hrz0 : w5.cell? ⟨gR, 0, none⟩ = some (.int .i64 0) := (blk_cell HE5.out.hO 0).trans rfl
          have hrz1 : w5.cell? ⟨gR, 1, none⟩ = some (.slice none 0 0) := (blk_cell HE5.out.hO 1).trans rfl
          have hgz0 := blk_frozen HE5.out.hO 0
          have hgz1 := blk_frozen HE5.out.hO 1
          have hn1 := HE5.out.ne
          have hn2 := hn1.symm
          go_wp2
          refine bodyPost_ret (results_cell_row rfl _ _ gR 25 #[.int .i64 id, .slice (some ⟨G, 0, none⟩) (oddPut l i (su2 (rdT l i) r)).length c] (0, 0) _ rfl (blk_put (cs := #[.int .i64 id, .slice none 0 0]) (blk_put (cs := #[.int .i64 0, .slice none 0 0]) HE5.out.hO 0 _ rfl) 1 _ rfl) Try.underlying25 rfl (by kernel_rfl)) rfl ?_
          exact ⟨_, rfl, Kd.R_mono (Kd.R_far (p := ⟨gR, 1, none⟩) (Kd.R_far (p := ⟨gR, 0, none⟩) (Kd.R_types HE5.out.hR HE5.out.hO (by decide)) (fun _ hk => hk.2) _) (fun _ hk => hk.2) _) (fun _ _ => trivial), below_set (below_set HE5.out.hB HE5.out.gR_ge) HE5.out.gR_ge, blk_far (blk_far HE5.out.hV (p := ⟨gR, 0, none⟩) HE5.out.nR _) (p := ⟨gR, 1, none⟩) HE5.out.nR _⟩
        · rw [if_neg e3] at H
          have b3 : (q == 3) = false := beq_eq_false_iff_ne.mpr e3
          by_cases e4 : q = 4
          · rw [if_pos e4] at H
            have b4 : (q == 4) = true := beq_iff_eq.mpr e4
            obtain ⟨⟨r, r1, r2⟩, hr, hx⟩ := Option.bind_eq_some_iff.mp H.out
            clear H
            dsimp only at hr hx
            have HR := Aside0.mk hr
            have H := Aside0.mk hx
            clear hr hx
            by_cases hrn : 0 ≤ r ∧ r < 4
            case neg => have hx := H.out; rw [if_neg hrn] at hx; cases hx
            have hx := H.out
            rw [if_pos hrn] at hx
            clear H
            have H := Aside0.mk hx
            clear hx
            have HRN := Aside0.mk hrn
            have r0 : (0 ≤ r) = True := eq_true hrn.1
            have r4 : (r < 4) = True := eq_true hrn.2
            clear hrn
            have HV := H.out
            simp only [Option.some.injEq, Prod.mk.injEq] at HV
            obtain ⟨rfl, rfl⟩ := HV
            clear H
            go_upto_region 12 with (fail)
            replace HE4 := Aside0.mk HE4.out.drew
            refine start_ (n := 18) (S := fun w' => w'.cell? ⟨G, i.toNat * 7 + 5, none⟩ = some (.int .i64 (rdT l i).f5)) (ds := [17]) #[false,false,false,false,false,false,false,false,false,false,false,false,false,false,false,false,false,false] (by kernel_rfl) rfl rfl ((HE4.out.at i HIN.out.1 HIN.out.2).1.2.2.2.2.2.1) (fun hHeld => ?_)
            generalize w4.drew = w5 at hHeld HE4 ⊢
            refine pure_ (i := 0) (N := (some 44)) (v := ?_) (a' := ?_) #[true,false,false,false,false,false,false,false,false,false,false,false,false,false,false,false,false,false] rfl rfl (by kernel_rfl) (fun _ _ _ h => h) (Or.inl ⟨by rfl, ?_⟩) ?_ ?_
            rotate_left
            · intro w'
              go_simp
              with_reducible rfl
            rotate_left
            · simp only [Act.put, List.setIfInBounds_toArray, List.set_cons_zero, List.set_cons_succ, i64_w, i32_w]
              rfl
            refine pure_ (i := 1) (N := (some 45)) (v := ?_) (a' := ?_) #[true,true,false,false,false,false,false,false,false,false,false,false,false,false,false,false,false,false] rfl rfl (by kernel_rfl) (fun _ _ _ h => h) (Or.inl ⟨by rfl, ?_⟩) ?_ ?_
            rotate_left
            · intro w'
              go_simp
              with_reducible rfl
            rotate_left
            · simp only [Act.put, List.setIfInBounds_toArray, List.set_cons_zero, List.set_cons_succ, i64_w, i32_w]
              rfl
            refine pure_ (i := 2) (N := (some 46)) (v := ?_) (a' := ?_) #[true,true,true,false,false,false,false,false,false,false,false,false,false,false,false,false,false,false] rfl rfl (by kernel_rfl) (fun _ _ _ h => h) (Or.inl ⟨by rfl, ?_⟩) ?_ ?_
            rotate_left
            · intro w'
              go_simp
              with_reducible rfl
            rotate_left
            · simp only [Act.put, List.setIfInBounds_toArray, List.set_cons_zero, List.set_cons_succ, i64_w, i32_w]
              rfl
            refine pure_ (i := 3) (N := (some 47)) (v := ?_) (a' := ?_) #[true,true,true,true,false,false,false,false,false,false,false,false,false,false,false,false,false,false] rfl rfl (by kernel_rfl) (fun _ _ _ h => h) (Or.inl ⟨by rfl, ?_⟩) ?_ ?_
            rotate_left
            · intro w'
              go_simp
              with_reducible rfl
            rotate_left
            · simp only [Act.put, List.setIfInBounds_toArray, List.set_cons_zero, List.set_cons_succ, i64_w, i32_w]
              rfl
            refine take_ (i := 4) (N := (some 48)) (v := ?_) (a' := ?_) #[true,true,true,true,true,false,false,false,false,false,false,false,false,false,false,false,false,false] rfl rfl (by kernel_rfl) (fun _ _ _ h => h) (Or.inl ⟨by rfl, ?_⟩) hHeld ?_ ?_
            rotate_left
            · intro w' s0
              go_simp
              with_reducible rfl
            rotate_left
            · simp only [Act.put, List.setIfInBounds_toArray, List.set_cons_zero, List.set_cons_succ, i64_w, i32_w]
              rfl
            refine pure_ (i := 5) (N := (some 49)) (v := ?_) (a' := ?_) #[true,true,true,true,true,true,false,false,false,false,false,false,false,false,false,false,false,false] rfl rfl (by kernel_rfl) (fun _ _ _ h => h) (Or.inl ⟨by rfl, ?_⟩) ?_ ?_
            rotate_left
            · intro w'
              go_simp
              with_reducible rfl
            rotate_left
            · simp only [Act.put, List.setIfInBounds_toArray, List.set_cons_zero, List.set_cons_succ, i64_w, i32_w]
              rfl
            refine pure_ (i := 6) (N := (some 50)) (v := ?_) (a' := ?_) #[true,true,true,true,true,true,true,false,false,false,false,false,false,false,false,false,false,false] rfl rfl (by kernel_rfl) (fun _ _ _ h => h) (Or.inl ⟨by rfl, ?_⟩) ?_ ?_
            rotate_left
            · intro w'
              go_simp
              with_reducible rfl
            rotate_left
            · simp only [Act.put, List.setIfInBounds_toArray, List.set_cons_zero, List.set_cons_succ, i64_w, i32_w]
              rfl
            refine pure_ (i := 7) (N := (some 51)) (v := ?_) (a' := ?_) #[true,true,true,true,true,true,true,true,false,false,false,false,false,false,false,false,false,false] rfl rfl (by kernel_rfl) (fun _ _ _ h => h) (Or.inl ⟨by rfl, ?_⟩) ?_ ?_
            rotate_left
            · intro w'
              go_simp
              with_reducible rfl
            rotate_left
            · simp only [Act.put, List.setIfInBounds_toArray, List.set_cons_zero, List.set_cons_succ, i64_w, i32_w]
              rfl
            refine take_ (i := 8) (N := (some 52)) (v := ?_) (a' := ?_) #[true,true,true,true,true,true,true,true,true,false,false,false,false,false,false,false,false,false] rfl rfl (by kernel_rfl) (fun _ _ _ h => h) (Or.inl ⟨by rfl, ?_⟩) hHeld ?_ ?_
            rotate_left
            · intro w' s0
              go_simp
              with_reducible rfl
            rotate_left
            · simp only [Act.put, List.setIfInBounds_toArray, List.set_cons_zero, List.set_cons_succ, i64_w, i32_w]
              rfl
            refine pure_ (i := 9) (N := (some 53)) (v := ?_) (a' := ?_) #[true,true,true,true,true,true,true,true,true,true,false,false,false,false,false,false,false,false] rfl rfl (by kernel_rfl) (fun _ _ _ h => h) (Or.inl ⟨by rfl, ?_⟩) ?_ ?_
            rotate_left
            · intro w'
              go_simp
              with_reducible rfl
            rotate_left
            · simp only [Act.put, List.setIfInBounds_toArray, List.set_cons_zero, List.set_cons_succ, i64_w, i32_w]
              rfl
            refine pure_ (i := 11) (N := (some 55)) (v := ?_) (a' := ?_) #[true,true,true,true,true,true,true,true,true,true,false,true,false,false,false,false,false,false] rfl rfl (by kernel_rfl) (fun _ _ _ h => h) (Or.inl ⟨by rfl, ?_⟩) ?_ ?_
            rotate_left
            · intro w'
              go_simp
              with_reducible rfl
            rotate_left
            · simp only [Act.put, List.setIfInBounds_toArray, List.set_cons_zero, List.set_cons_succ, i64_w, i32_w]
              rfl
            refine join_ (σ := Nat) 5 #[true,true,true,true,true,true,true,true,true,true,true,true,true,false,false,false,false,false] (fun s_ => [(54, .slice (some ⟨s_, 0, none⟩) 4 4), (56, .int .i64 r)]) (fun s_ w' => OddEnv w0 gV cV g gT gR G c id l s0 r1 r2 w' ∧ w'.heap[s_]? = some (.cells #[.int .i64 (-1), .int .i64 (rdT l i).f5, .int .i64 (wrap64 ((rdT l i).f5 + 1)), .int .i64 0] 3 (0, 0))) ?_ ?_
            rotate_left
            · intro hCont
              refine two_ (i := 10) (j := 12) (Ni := some 54) (Nj := some 56) #[true,true,true,true,true,true,true,true,true,true,true,true,false,false,false,false,false,false] #[true,true,true,true,true,true,true,true,true,true,false,true,true,false,false,false,false,false] rfl rfl rfl rfl (by kernel_rfl) (by decide) (by decide) (fun K hK => ?_) (fun K hK => ?_)
              · refine value_ (w1 := ?_) (v := ?_) (by rfl) rfl ?_ ?_
                rotate_left 2
                · go_simp
                  constructor
                  · rfl
                  · rfl
                have HS := Aside0.mk (blk_new w5 (.cells #[.int .i64 (-1), .int .i64 (rdT l i).f5, .int .i64 (wrap64 ((rdT l i).f5 + 1)), .int .i64 0] 3))
                replace HE4 := Aside0.mk (HE4.out.alloc (.cells #[.int .i64 (-1), .int .i64 (rdT l i).f5, .int .i64 (wrap64 ((rdT l i).f5 + 1)), .int .i64 0] 3))
                refine hK.out _ _ ((HE4.out.at i HIN.out.1 HIN.out.2).1.2.2.2.2.2.1) (fun hHeld2 => ?_)
                clear hK K hHeld
                have hHeld := hHeld2
                clear hHeld2
                refine norm_ (a' := ?_) ?_ ?_
                rotate_left
                · show Act.put _ (some 54) _ = _
                  simp only [Act.put, List.setIfInBounds_toArray, List.set_cons_zero, List.set_cons_succ, i64_w, i32_w]
                  rfl
                refine one_ (i := 12) (N := some 56) #[true,true,true,true,true,true,true,true,true,true,true,true,true,false,false,false,false,false] rfl rfl (by kernel_rfl) (by decide) (fun K hK => ?_)
                generalize w5.alloc (.cells #[.int .i64 (-1), .int .i64 (rdT l i).f5, .int .i64 (wrap64 ((rdT l i).f5 + 1)), .int .i64 0] 3) = w6 at HE4 HS hHeld ⊢
                generalize w5.heap.size = gS at HS ⊢
                refine goes_ Try.func26 (by kernel_rfl) rfl #[.pointer (some ⟨g, 0, none⟩), .int .i64 4] (by rfl) rfl rfl (by (try simp only [List.map_toArray, List.map_cons, List.map_nil]); first | done | rfl) ?_
                with_reducible refine (spec_l1Cur_pick.calls g s0 q1 q2 4 r r1 r2 w0 _ HE4.out.hI HE4.out.hB HR.out).mono ?_
                rintro e w7 ⟨rfl, hi, hb, hk⟩
                have HS7 := Aside0.mk (KeepBut.blk hk HS.out (fun e' => IsS41.ne_blk HE4.out.hI HS.out (by decide) e'.symm) (by simp))
                refine ⟨_, rfl, ?_⟩
                replace HE4 := Aside0.mk (HE4.out.read hi hb hk)
                clear hi hb hk
                refine hK.out _ _ ((HE4.out.at i HIN.out.1 HIN.out.2).1.2.2.2.2.2.1) (fun hHeld2 => ?_)
                clear hK K hHeld
                have hHeld := hHeld2
                clear hHeld2
                refine norm_ (a' := ?_) ?_ ?_
                rotate_left
                · show Act.put _ (some 56) _ = _
                  simp only [Act.put, List.setIfInBounds_toArray, List.set_cons_zero, List.set_cons_succ, i64_w, i32_w]
                  rfl
                exact norm_ (by simp only [putAll, Act.put, List.setIfInBounds_toArray, List.set_cons_zero, List.set_cons_succ]) (hCont gS _ ⟨HE4.out, HS7.out⟩)
              · refine goes_ Try.func26 (by kernel_rfl) rfl #[.pointer (some ⟨g, 0, none⟩), .int .i64 4] (by rfl) rfl rfl (by (try simp only [List.map_toArray, List.map_cons, List.map_nil]); first | done | rfl) ?_
                with_reducible refine (spec_l1Cur_pick.calls g s0 q1 q2 4 r r1 r2 w0 _ HE4.out.hI HE4.out.hB HR.out).mono ?_
                rintro e w7 ⟨rfl, hi, hb, hk⟩
                refine ⟨_, rfl, ?_⟩
                replace HE4 := Aside0.mk (HE4.out.read hi hb hk)
                clear hi hb hk
                refine hK.out _ _ ((HE4.out.at i HIN.out.1 HIN.out.2).1.2.2.2.2.2.1) (fun hHeld2 => ?_)
                clear hK K hHeld
                have hHeld := hHeld2
                clear hHeld2
                refine norm_ (a' := ?_) ?_ ?_
                rotate_left
                · show Act.put _ (some 56) _ = _
                  simp only [Act.put, List.setIfInBounds_toArray, List.set_cons_zero, List.set_cons_succ, i64_w, i32_w]
                  rfl
                refine one_ (i := 10) (N := some 54) #[true,true,true,true,true,true,true,true,true,true,true,true,true,false,false,false,false,false] rfl rfl (by kernel_rfl) (by decide) (fun K hK => ?_)
                refine value_ (w1 := ?_) (v := ?_) (by rfl) rfl ?_ ?_
                rotate_left 2
                · go_simp
                  constructor
                  · rfl
                  · rfl
                have HS := Aside0.mk (blk_new w7 (.cells #[.int .i64 (-1), .int .i64 (rdT l i).f5, .int .i64 (wrap64 ((rdT l i).f5 + 1)), .int .i64 0] 3))
                replace HE4 := Aside0.mk (HE4.out.alloc (.cells #[.int .i64 (-1), .int .i64 (rdT l i).f5, .int .i64 (wrap64 ((rdT l i).f5 + 1)), .int .i64 0] 3))
                refine hK.out _ _ ((HE4.out.at i HIN.out.1 HIN.out.2).1.2.2.2.2.2.1) (fun hHeld2 => ?_)
                clear hK K hHeld
                have hHeld := hHeld2
                clear hHeld2
                refine norm_ (a' := ?_) ?_ ?_
                rotate_left
                · show Act.put _ (some 54) _ = _
                  simp only [Act.put, List.setIfInBounds_toArray, List.set_cons_zero, List.set_cons_succ, i64_w, i32_w]
                  rfl
                exact norm_ (by simp only [putAll, Act.put, List.setIfInBounds_toArray, List.set_cons_zero, List.set_cons_succ]) (hCont w7.heap.size _ ⟨HE4.out, HS.out⟩)
            rintro gS w6 ⟨hE, hS⟩
            replace HE4 := Aside0.mk hE
            have hcS := oddFrom_cell (x := rdT l i) hS HRN.out.1 HRN.out.2
            clear hE hS
            have hHeld := (HE4.out.at i HIN.out.1 HIN.out.2).1.2.2.2.2.2.1
            obtain ⟨⟨hc0, hc1, hc2, hc3, hc4, hc5, hc6⟩, hfr⟩ := HE4.out.at i HIN.out.1 HIN.out.2
            have hfx : w6.frozen? ⟨G, i.toNat * 7 + 4, none⟩ = false := hfr 4
            clear hfr
            refine norm_ (a' := ?_) ?_ ?_
            rotate_left
            · simp only [putAll, Act.put, List.setIfInBounds_toArray, List.set_cons_zero, List.set_cons_succ]
              rfl
            refine pure_ (i := 13) (N := some 57) (v := ?_) (a' := ?_) #[true,true,true,true,true,true,true,true,true,true,true,true,true,true,false,false,false,false] rfl rfl (by kernel_rfl) (fun _ _ _ h => h) (Or.inl ⟨by rfl, ?_⟩) ?_ ?_
            rotate_left
            · intro w'
              go_simp
              with_reducible rfl
            rotate_left
            · simp only [Act.put, List.setIfInBounds_toArray, List.set_cons_zero, List.set_cons_succ, i64_w, i32_w]
              rfl
            refine one_ (i := 14) (N := some 58) #[true,true,true,true,true,true,true,true,true,true,true,true,true,true,true,false,false,false] rfl rfl (by kernel_rfl) (by decide) (fun K hK => ?_)
            refine value_ (w1 := ?_) (v := ?_) (by rfl) rfl ?_ ?_
            rotate_left 2
            · go_simp
              constructor
              · rfl
              · rfl
            refine hK.out _ _ (hHeld) (fun hHeld2 => ?_)
            clear hK K hHeld
            have hHeld := hHeld2
            clear hHeld2
            refine norm_ (a' := ?_) ?_ ?_
            rotate_left
            · show Act.put _ (some 58) _ = _
              simp only [Act.put, List.setIfInBounds_toArray, List.set_cons_zero, List.set_cons_succ, i64_w, i32_w]
              rfl
            refine pure_ (i := 15) (N := some 59) (v := ?_) (a' := ?_) #[true,true,true,true,true,true,true,true,true,true,true,true,true,true,true,true,false,false] rfl rfl (by kernel_rfl) (fun _ _ _ h => h) (Or.inl ⟨by rfl, ?_⟩) ?_ ?_
            rotate_left
            · intro w'
              go_simp
              with_reducible rfl
            rotate_left
            · simp only [Act.put, List.setIfInBounds_toArray, List.set_cons_zero, List.set_cons_succ, i64_w, i32_w]
              rfl
            refine pure_ (i := 16) (N := some 60) (v := ?_) (a' := ?_) #[true,true,true,true,true,true,true,true,true,true,true,true,true,true,true,true,true,false] rfl rfl (by kernel_rfl) (fun _ _ _ h => h) (Or.inl ⟨by rfl, ?_⟩) ?_ ?_
            rotate_left
            · intro w'
              go_simp
              with_reducible rfl
            rotate_left
            · simp only [Act.put, List.setIfInBounds_toArray, List.set_cons_zero, List.set_cons_succ, i64_w, i32_w]
              rfl
            refine last_ (i := 17) (N := none) #[true,true,true,true,true,true,true,true,true,true,true,true,true,true,true,true,true,true] rfl rfl (by kernel_rfl) (by decide) (fun K hK => ?_)
            refine skip_ (w1 := ?_) (by rfl) rfl ?_ ?_
            rotate_left
            · go_simp
              rfl
            refine hK.out _ _ ?_
            clear hK K
            refine done_ (by kernel_rfl) ?_
            go_upto_region 21 with (fail)
            clear hfx hc0 hc1 hc2 hc3 hc4 hc5 hc6 hcS
            have HE5 := Aside0.mk (HE4.out.put i HIN.out.1 HIN.out.2 4 (.int .i64 (oddFrom (rdT l i) r)) (su4 (rdT l i) (oddFrom (rdT l i) r)) rfl (by decide))
            clear HE4 hHeld
            generalize hw5 : w6.setCell ⟨G, i.toNat * 7 + 4, none⟩ (.int .i64 (oddFrom (rdT l i) r)) = w7 at HE5
            clear hw5
            generalize w7 = w5 at HE5 ⊢
            have hcz0 : w5.cell? ⟨gT, 0, none⟩ = some (.int .i64 id) := (blk_cell HE5.out.hT 0).trans rfl
            have hcz1 : w5.cell? ⟨gT, 1, none⟩ = some (.slice (some ⟨G, 0, none⟩) (oddPut l i (su4 (rdT l i) (oddFrom (rdT l i) r))).length c) := (blk_cell HE5.out.hT 1).trans rfl
            have hfz0 := blk_frozen HE5.out.hT 0
            have hfz1 := blk_frozen HE5.out.hT 1
            have hrz0 : w5.cell? ⟨gR, 0, none⟩ = some (.int .i64 0) := (blk_cell HE5.out.hO 0).trans rfl
            have hrz1 : w5.cell? ⟨gR, 1, none⟩ = some (.slice none 0 0) := (blk_cell HE5.out.hO 1).trans rfl
            have hgz0 := blk_frozen HE5.out.hO 0
            have hgz1 := blk_frozen HE5.out.hO 1
            have hn1 := HE5.out.ne
            have hn2 := hn1.symm
            go_wp2
            refine bodyPost_ret (results_cell_row rfl _ _ gR 25 #[.int .i64 id, .slice (some ⟨G, 0, none⟩) (oddPut l i (su4 (rdT l i) (oddFrom (rdT l i) r))).length c] (0, 0) _ rfl (blk_put (cs := #[.int .i64 id, .slice none 0 0]) (blk_put (cs := #[.int .i64 0, .slice none 0 0]) HE5.out.hO 0 _ rfl) 1 _ rfl) Try.underlying25 rfl (by kernel_rfl)) rfl ?_
            exact ⟨_, rfl, Kd.R_mono (Kd.R_far (p := ⟨gR, 1, none⟩) (Kd.R_far (p := ⟨gR, 0, none⟩) (Kd.R_types HE5.out.hR HE5.out.hO (by decide)) (fun _ hk => hk.2) _) (fun _ hk => hk.2) _) (fun _ _ => trivial), below_set (below_set HE5.out.hB HE5.out.gR_ge) HE5.out.gR_ge, blk_far (blk_far HE5.out.hV (p := ⟨gR, 0, none⟩) HE5.out.nR _) (p := ⟨gR, 1, none⟩) HE5.out.nR _⟩
          · rw [if_neg e4] at H
            have b4 : (q == 4) = false := beq_eq_false_iff_ne.mpr e4
            by_cases e5 : q = 5
            · rw [if_pos e5] at H
              have b5 : (q == 5) = true := beq_iff_eq.mpr e5
              obtain ⟨⟨r, r1, r2⟩, hr, hx⟩ := Option.bind_eq_some_iff.mp H.out
              clear H
              dsimp only at hr hx
              have HR := Aside0.mk hr
              have H := Aside0.mk hx
              clear hr hx
              have HV := H.out
              simp only [Option.some.injEq, Prod.mk.injEq] at HV
              obtain ⟨rfl, rfl⟩ := HV
              clear H
              go_upto_region 21 with (go_at_call 26; refine (spec_l1Cur_pick.calls g s0 q1 q2 2 r r1 r2 w0 _ HE4.out.hI HE4.out.hB HR.out).mono ?_; rintro e w6 ⟨rfl, hi, hb, hk⟩; have HE6 := Aside0.mk (HE4.out.read hi hb hk); clear hi hb hk HE4; obtain ⟨⟨hc0, hc1, hc2, hc3, hc4, hc5, hc6⟩, hfr⟩ := HE6.out.at i HIN.out.1 HIN.out.2; have hfx : w6.frozen? ⟨G, i.toNat * 7 + 5, none⟩ = false := hfr 5; clear hfr)
              clear hfx hc0 hc1 hc2 hc3 hc4 hc5 hc6
              have HE5 := Aside0.mk (HE6.out.put i HIN.out.1 HIN.out.2 5 (.int .i64 (wrap64 (1000000000000 + r))) (su5 (rdT l i) (wrap64 (1000000000000 + r))) rfl (by decide))
              clear HE6
              generalize hw5 : w6.setCell ⟨G, i.toNat * 7 + 5, none⟩ (.int .i64 (wrap64 (1000000000000 + r))) = w5 at HE5
              clear hw5
              have hcz0 : w5.cell? ⟨gT, 0, none⟩ = some (.int .i64 id) := (blk_cell HE5.out.hT 0).trans rfl
              have hcz1 : w5.cell? ⟨gT, 1, none⟩ = some (.slice (some ⟨G, 0, none⟩) (oddPut l i (su5 (rdT l i) (wrap64 (1000000000000 + r)))).length c) := (blk_cell HE5.out.hT 1).trans rfl
              have hfz0 := blk_frozen HE5.out.hT 0
              have hfz1 := blk_frozen HE5.out.hT 1
              have hrz0 : w5.cell? ⟨gR, 0, none⟩ = some (.int .i64 0) := (blk_cell HE5.out.hO 0).trans rfl
              have hrz1 : w5.cell? ⟨gR, 1, none⟩ = some (.slice none 0 0) := (blk_cell HE5.out.hO 1).trans rfl
              have hgz0 := blk_frozen HE5.out.hO 0
              have hgz1 := blk_frozen HE5.out.hO 1
              have hn1 := HE5.out.ne
              have hn2 := hn1.symm
              go_wp2
              refine bodyPost_ret (results_cell_row rfl _ _ gR 25 #[.int .i64 id, .slice (some ⟨G, 0, none⟩) (oddPut l i (su5 (rdT l i) (wrap64 (1000000000000 + r)))).length c] (0, 0) _ rfl (blk_put (cs := #[.int .i64 id, .slice none 0 0]) (blk_put (cs := #[.int .i64 0, .slice none 0 0]) HE5.out.hO 0 _ rfl) 1 _ rfl) Try.underlying25 rfl (by kernel_rfl)) rfl ?_
              exact ⟨_, rfl, Kd.R_mono (Kd.R_far (p := ⟨gR, 1, none⟩) (Kd.R_far (p := ⟨gR, 0, none⟩) (Kd.R_types HE5.out.hR HE5.out.hO (by decide)) (fun _ hk => hk.2) _) (fun _ hk => hk.2) _) (fun _ _ => trivial), below_set (below_set HE5.out.hB HE5.out.gR_ge) HE5.out.gR_ge, blk_far (blk_far HE5.out.hV (p := ⟨gR, 0, none⟩) HE5.out.nR _) (p := ⟨gR, 1, none⟩) HE5.out.nR _⟩
            · rw [if_neg e5] at H
              have b5 : (q == 5) = false := beq_eq_false_iff_ne.mpr e5
              by_cases e6 : q = 6
              · rw [if_pos e6] at H
                have b6 : (q == 6) = true := beq_iff_eq.mpr e6
                obtain ⟨lx, hl, hx⟩ := Option.bind_eq_some_iff.mp H.out
                simp only [Option.some.injEq, Prod.mk.injEq] at hx
                obtain ⟨rfl, rfl⟩ := hx
                have HL := Aside0.mk hl
                have HN := Aside0.mk HNE
                clear H hl HNE
                subst e6
                clear e0 e1 e2 e3 e4 e5
                go_wp2
                go_loopg [6] k (fun kq v6 w' => ∃ (lq : List SC) (Gq cq : Nat) (t1 t2 : Int), Aside0 (spec_l1Cur_oddTrace.l0 kq s0 t1 t2 lq = some lx) ∧ Aside0 (kq ≤ k) ∧ Aside0 (0 < lq.length) ∧ Aside0 (OddEnv w0 gV cV g gT gR Gq cq id lq s0 t1 t2 w'))
                case atStart => exact ⟨l, G, c, q1, q2, HL, ⟨Nat.le_refl _⟩, HN, HE4⟩
                case round =>
                  clear HL HN HE4
                  obtain ⟨lq, Gq, cq, t1, t2, HL, HK, HN, HE⟩ := hrel
                  cases gk with
                  | zero => exact absurd HL.out (by simp [spec_l1Cur_oddTrace.l0])
                  | succ k1 =>
                    have hl := HL.out
                    simp only [spec_l1Cur_oddTrace.l0] at hl
                    obtain ⟨⟨p, p1, p2⟩, hp, hl2⟩ := Option.bind_eq_some_iff.mp hl
                    dsimp only at hp hl2
                    have HP := Aside0.mk hp
                    have HX := Aside0.mk hl2
                    clear HL hl hp hl2
                    go_upto_region 16 with (fail)
                    replace HE := Aside0.mk HE.out.drew
                    by_cases hlt : (lq.length : Int) < wrap64 (99 + p)
                    · have hx := HX.out
                      rw [if_pos hlt] at hx
                      have hltb : decide ((lq.length : Int) < wrap64 (99 + p)) = true := decide_eq_true hlt
                      by_cases hmx : lq.length ≤ 1000
                      case neg => rw [if_neg hmx] at hx; cases hx
                      rw [if_pos hmx] at hx
                      have HL2 := Aside0.mk hx
                      have HM := Aside0.mk hmx
                      clear HX hx hlt hmx
                      refine start_ (n := 7) (S := fun w' => w'.cell? ⟨gT, 1, none⟩ = some (.slice (some ⟨Gq, 0, none⟩) lq.length cq)) (ds := []) #[false,false,false,false,false,false,false] (by kernel_rfl) rfl rfl ((blk_cell HE.out.hT 1).trans rfl) (fun hHeld => ?_)
                      generalize wr.drew = w5 at hHeld HE ⊢
                      refine pure_ (i := 0) (N := (some 71)) (v := ?_) (a' := ?_) #[true,false,false,false,false,false,false] rfl rfl (by kernel_rfl) (fun _ _ _ h => h) (Or.inl ⟨by rfl, ?_⟩) ?_ ?_
                      rotate_left
                      · intro w'
                        go_simp
                        with_reducible rfl
                      rotate_left
                      · simp only [Act.put, List.setIfInBounds_toArray, List.set_cons_zero, List.set_cons_succ, i64_w, i32_w]
                        rfl
                      refine take_ (i := 1) (N := (some 72)) (v := ?_) (a' := ?_) #[true,true,false,false,false,false,false] rfl rfl (by kernel_rfl) (fun _ _ _ h => h) (Or.inl ⟨by rfl, ?_⟩) hHeld ?_ ?_
                      rotate_left
                      · intro w' s0
                        go_simp
                        with_reducible rfl
                      rotate_left
                      · simp only [Act.put, List.setIfInBounds_toArray, List.set_cons_zero, List.set_cons_succ, i64_w, i32_w]
                        rfl
                      refine pure_ (i := 2) (N := (some 73)) (v := ?_) (a' := ?_) #[true,true,true,false,false,false,false] rfl rfl (by kernel_rfl) (fun _ _ _ h => h) (Or.inl ⟨by rfl, ?_⟩) ?_ ?_
                      rotate_left
                      · intro w'
                        go_simp
                        with_reducible rfl
                      rotate_left
                      · simp only [Act.put, List.setIfInBounds_toArray, List.set_cons_zero, List.set_cons_succ, i64_w, i32_w]
                        rfl
                      refine pure_ (i := 3) (N := (some 74)) (v := ?_) (a' := ?_) #[true,true,true,true,false,false,false] rfl rfl (by kernel_rfl) (fun _ _ _ h => h) (Or.inl ⟨by rfl, ?_⟩) ?_ ?_
                      rotate_left
                      · intro w'
                        go_simp
                        with_reducible rfl
                      rotate_left
                      · simp only [Act.put, List.setIfInBounds_toArray, List.set_cons_zero, List.set_cons_succ, i64_w, i32_w]
                        rfl
                      refine one_ (i := 4) (N := (some 75)) #[true,true,true,true,true,false,false] rfl rfl (by kernel_rfl) (by decide) (fun K hK => ?_)
                      refine goes_ Try.func26 (by kernel_rfl) rfl #[.pointer (some ⟨g, 0, none⟩), .int .i64 3] (by rfl) rfl rfl (by (try simp only [List.map_toArray, List.map_cons, List.map_nil]); first | done | rfl) ?_
                      with_reducible refine (spec_l1Cur_pick.calls g s0 t1 t2 3 p p1 p2 w0 _ HE.out.hI HE.out.hB HP.out).mono ?_
                      rintro e w6 ⟨rfl, hi, hb, hk⟩
                      refine ⟨_, rfl, ?_⟩
                      replace HE := Aside0.mk (HE.out.read hi hb hk)
                      clear hi hb hk
                      refine hK.out _ _ ((blk_cell HE.out.hT 1).trans rfl) (fun hHeld2 => ?_)
                      clear hK K hHeld
                      have hHeld := hHeld2
                      clear hHeld2
                      refine norm_ (a' := ?_) ?_ ?_
                      rotate_left
                      · show Act.put _ (some 75) _ = _
                        simp only [Act.put, List.setIfInBounds_toArray, List.set_cons_zero, List.set_cons_succ, i64_w, i32_w]
                        rfl
                      refine pure_ (i := 5) (N := (some 76)) (v := ?_) (a' := ?_) #[true,true,true,true,true,true,false] rfl rfl (by kernel_rfl) (fun _ _ _ h => h) (Or.inl ⟨by rfl, ?_⟩) ?_ ?_
                      rotate_left
                      · intro w'
                        go_simp
                        with_reducible rfl
                      rotate_left
                      · simp only [Act.put, List.setIfInBounds_toArray, List.set_cons_zero, List.set_cons_succ, i64_w, i32_w]
                        rfl
                      refine pure_ (i := 6) (N := (some 77)) (v := .bool true) (a' := ?_) #[true,true,true,true,true,true,true] rfl rfl (by kernel_rfl) (fun _ _ _ h => h) (Or.inl ⟨by rfl, ?_⟩) ?_ ?_
                      · intro w'
                        go_simp
                        first | done | rfl | (rw [if_pos (by decide), if_pos (by decide)]; rfl) | (congr 3; done) | (congr 3; kernel_rfl)
                      rotate_left
                      · simp only [Act.put, List.setIfInBounds_toArray, List.set_cons_zero, List.set_cons_succ, i64_w, i32_w]
                        rfl
                      refine done_ (by kernel_rfl) ?_
                      clear hHeld HP
                      have hcz1 : w6.cell? ⟨gT, 1, none⟩ = some (.slice (some ⟨Gq, 0, none⟩) lq.length cq) := (blk_cell HE.out.hT 1).trans rfl
                      have z0 : (0 < (lq.length : Int)) = True := eq_true (by have := HN.out; omega)
                      have z1 : (0 < lq.length) = True := eq_true HN.out
                      obtain ⟨⟨hc0, hc1, hc2, hc3, hc4, hc5, hc6⟩, hfr⟩ := HE.out.at 0 (by omega) (by have := HN.out; omega)
                      have hd0 : w6.cell? ⟨Gq, 0, none⟩ = some (.int .i64 (rdT lq 0).f0) := hc0
                      have hd1 : w6.cell? ⟨Gq, 1, none⟩ = some (.int .i64 (rdT lq 0).f1) := hc1
                      have hd2 : w6.cell? ⟨Gq, 2, none⟩ = some (.string (rdT lq 0).f2) := hc2
                      have hd3 : w6.cell? ⟨Gq, 3, none⟩ = some (.string (rdT lq 0).f3) := hc3
                      have hd4 : w6.cell? ⟨Gq, 4, none⟩ = some (.int .i64 (rdT lq 0).f4) := hc4
                      have hd5 : w6.cell? ⟨Gq, 5, none⟩ = some (.int .i64 (rdT lq 0).f5) := hc5
                      have hd6 : w6.cell? ⟨Gq, 6, none⟩ = some (.bool (rdT lq 0).f6) := hc6
                      clear hc0 hc1 hc2 hc3 hc4 hc5 hc6 hfr
                      go_upto_region 18 with (fail)
                      clear hcz1 hd0 hd1 hd2 hd3 hd4 hd5 hd6
                      have HR7 := Aside0.mk (Kd.R_alloc (Kd.R_elderB HE.out.hR w6.heap.size (Nat.le_refl _)) (.cells #[.int .i64 ((rdT lq 0).f0), .int .i64 ((rdT lq 0).f1), .string (rdT lq 0).f2, .string (rdT lq 0).f3, .int .i64 (rdT lq 0).f4, .int .i64 (rdT lq 0).f5, .bool (rdT lq 0).f6] 34))
                      have HY := Aside0.mk (blk_new w6 (.cells #[.int .i64 ((rdT lq 0).f0), .int .i64 ((rdT lq 0).f1), .string (rdT lq 0).f2, .string (rdT lq 0).f3, .int .i64 (rdT lq 0).f4, .int .i64 (rdT lq 0).f5, .bool (rdT lq 0).f6] 34))
                      have HG := Aside0.mk HE.out.hB.size
                      replace HE := Aside0.mk (HE.out.alloc (.cells #[.int .i64 ((rdT lq 0).f0), .int .i64 ((rdT lq 0).f1), .string (rdT lq 0).f2, .string (rdT lq 0).f3, .int .i64 (rdT lq 0).f4, .int .i64 (rdT lq 0).f5, .bool (rdT lq 0).f6] 34))
                      generalize w6.alloc (.cells #[.int .i64 ((rdT lq 0).f0), .int .i64 ((rdT lq 0).f1), .string (rdT lq 0).f2, .string (rdT lq 0).f3, .int .i64 (rdT lq 0).f4, .int .i64 (rdT lq 0).f5, .bool (rdT lq 0).f6] 34) = w7 at HE HY HR7 ⊢
                      generalize w6.heap.size = gY at HY HR7 HG ⊢
                      have HMM := Aside0.mk (show 0 ≤ wrap64 ((lq.length : Int) - 1) ∧ wrap64 ((lq.length : Int) - 1) < (lq.length : Int) by have := HM.out; have := HN.out; have e : wrap64 ((lq.length : Int) - 1) = (lq.length : Int) - 1 := (by unfold wrap64; omega); omega)
                      have m0 : (0 ≤ wrap64 ((lq.length : Int) - 1)) = True := eq_true HMM.out.1
                      have m1 : (wrap64 ((lq.length : Int) - 1) < (lq.length : Int)) = True := eq_true HMM.out.2
                      have hcz1 : w7.cell? ⟨gT, 1, none⟩ = some (.slice (some ⟨Gq, 0, none⟩) lq.length cq) := (blk_cell HE.out.hT 1).trans rfl
                      have hl0 := (HE.out.at _ HMM.out.1 HMM.out.2).1.1
                      have hy0 : w7.cell? ⟨gY, 0, none⟩ = some (.int .i64 (rdT lq 0).f0) := (blk_cell HY.out 0).trans rfl
                      have hyf := blk_frozen HY.out 0
                      go_upto_region 19 with (fail)
                      clear hcz1 hl0 hy0 hyf m0 m1
                      have h8 := Aside0.mk (HE.out.aside HR7.out HY.out HG.out 0 (.int .i64 (wrap64 ((rdT lq (wrap64 ((lq.length : Int) - 1))).f0 + 1))))
                      replace HY : Aside0 ((w7.setCell ⟨gY, 0, none⟩ (.int .i64 (wrap64 ((rdT lq (wrap64 ((lq.length : Int) - 1))).f0 + 1)))).heap[gY]? = some (.cells #[.int .i64 (wrap64 ((rdT lq (wrap64 ((lq.length : Int) - 1))).f0 + 1)), .int .i64 ((rdT lq 0).f1), .string (rdT lq 0).f2, .string (rdT lq 0).f3, .int .i64 (rdT lq 0).f4, .int .i64 (rdT lq 0).f5, .bool (rdT lq 0).f6] 34 (0, 0))) := ⟨blk_put HY.out 0 _ rfl⟩
                      replace HE := Aside0.mk h8.out.1
                      replace HR7 := Aside0.mk h8.out.2
                      clear h8
                      generalize w7.setCell ⟨gY, 0, none⟩ (.int .i64 (wrap64 ((rdT lq (wrap64 ((lq.length : Int) - 1))).f0 + 1))) = w8 at HE HY HR7 ⊢
                      have hcz1 : w8.cell? ⟨gT, 1, none⟩ = some (.slice (some ⟨Gq, 0, none⟩) lq.length cq) := (blk_cell HE.out.hT 1).trans rfl
                      have hd0 : w8.cell? ⟨Gq, 0, none⟩ = some (.int .i64 (rdT lq 0).f0) := (HE.out.at 0 (by omega) (by have := HN.out; omega)).1.1
                      have hy1 : w8.cell? ⟨gY, 1, none⟩ = some (.int .i64 (rdT lq 0).f1) := (blk_cell HY.out 1).trans rfl
                      have hyf := blk_frozen HY.out 1
                      go_upto_region 20 with (fail)
                      clear hcz1 hd0 hy1 hyf z0 z1
                      have h8 := Aside0.mk (HE.out.aside HR7.out HY.out HG.out 1 (.int .i64 ((rdT lq 0).f0)))
                      replace HY : Aside0 ((w8.setCell ⟨gY, 1, none⟩ (.int .i64 ((rdT lq 0).f0))).heap[gY]? = some (.cells #[.int .i64 (wrap64 ((rdT lq (wrap64 ((lq.length : Int) - 1))).f0 + 1)), .int .i64 ((rdT lq 0).f0), .string (rdT lq 0).f2, .string (rdT lq 0).f3, .int .i64 (rdT lq 0).f4, .int .i64 (rdT lq 0).f5, .bool (rdT lq 0).f6] 34 (0, 0))) := ⟨blk_put HY.out 1 _ rfl⟩
                      replace HE := Aside0.mk h8.out.1
                      replace HR7 := Aside0.mk h8.out.2
                      clear h8
                      generalize w8.setCell ⟨gY, 1, none⟩ (.int .i64 ((rdT lq 0).f0)) = w9 at HE HY HR7 ⊢
                      have hcz1 : w9.cell? ⟨gT, 1, none⟩ = some (.slice (some ⟨Gq, 0, none⟩) lq.length cq) := (blk_cell HE.out.hT 1).trans rfl
                      have hy0 : w9.cell? ⟨gY, 0, none⟩ = some (.int .i64 (wrap64 ((rdT lq (wrap64 ((lq.length : Int) - 1))).f0 + 1))) := (blk_cell HY.out 0).trans rfl
                      have hy1 : w9.cell? ⟨gY, 1, none⟩ = some (.int .i64 ((rdT lq 0).f0)) := (blk_cell HY.out 1).trans rfl
                      have hy2 : w9.cell? ⟨gY, 2, none⟩ = some (.string (rdT lq 0).f2) := (blk_cell HY.out 2).trans rfl
                      have hy3 : w9.cell? ⟨gY, 3, none⟩ = some (.string (rdT lq 0).f3) := (blk_cell HY.out 3).trans rfl
                      have hy4 : w9.cell? ⟨gY, 4, none⟩ = some (.int .i64 (rdT lq 0).f4) := (blk_cell HY.out 4).trans rfl
                      have hy5 : w9.cell? ⟨gY, 5, none⟩ = some (.int .i64 (rdT lq 0).f5) := (blk_cell HY.out 5).trans rfl
                      have hy6 : w9.cell? ⟨gY, 6, none⟩ = some (.bool (rdT lq 0).f6) := (blk_cell HY.out 6).trans rfl
                      have hts : w9.cell? ⟨gT, 0, none⟩ = some (.int .i64 id) := (blk_cell HE.out.hT 0).trans rfl
                      go_wp2_with (first
                        | ((with_reducible refine gate_builtin (b := .append) (xs := #[.tmp 100, .tmp 102]) rfl ?_); at_builtin
                           refine Kd.R_append kT (w0 := w0) w0.heap.size rfl (.tmp 100) (.tmp 102) 23 34 (.agg #[(.int .i64 0), (.int .i64 0), (.string ⟨#[]⟩), (.string ⟨#[]⟩), (.int .i64 0), (.int .i64 0), (.bool false)]) 72 rfl Try.underlying23 info34 rfl (by decide) (by omega) (.slice (some ⟨Gq, 0, none⟩) lq.length cq) lq (oddNext lq) [.int .i64 (wrap64 ((rdT lq (wrap64 ((lq.length : Int) - 1))).f0 + 1)), .int .i64 ((rdT lq 0).f0), .string (rdT lq 0).f2, .string (rdT lq 0).f3, .int .i64 (rdT lq 0).f4, .int .i64 (rdT lq 0).f5, .bool (rdT lq 0).f6] (fun k => True ∧ k ≠ gY) (fun _ => False) rfl (by first | (go_simp; done) | (go_simp; rfl)) ?aP (fun _ hk => hk.elim) ?aF ?aO ?aB ?aS ?aL ?_
                           (case aP => exact k34_mkM _ _ _ (oddNext lq)); (case aB => exact HE.out.hB); (case aF => exact fun k hk => ⟨trivial, fun e => absurd (blk_lt HY.out) (by omega)⟩); (case aO => exact HR7.out); (case aS => exact HE.out.hB.size); (case aL => have := HM.out; omega)
                           intro v1 w4 ho hb hg hat
                           obtain ⟨G2, c2, rfl, hE2⟩ := HE.out.pushed HN.out ho hb hg
                           have HE2 := Aside0.mk hE2
                           have hT4 := blk_grown HE.out.hT hg (fun e => by injection e with e; exact blk_ne HE.out.hT (HE.out.G_blk HN.out).2.choose_spec (by decide) e)
                           have hw0 : w4.cell? ⟨gT, 1, none⟩ = some (.slice (some ⟨Gq, 0, none⟩) lq.length cq) := (blk_cell hT4 1).trans rfl
                           have hwf := blk_frozen hT4 1
                           clear hE2 ho hb hg hat hT4 HE HY HR7 hcz1 hy0 hy1 hy2 hy3 hy4 hy5 hy6 hts))
                      clear hw0 hwf
                      go_roundg k1
                      case measure => have := HK.out; omega
                      case rel => exact ⟨lq ++ [oddNext lq], G2, c2, p1, p2, HL2, ⟨by have := HK.out; omega⟩, ⟨by simp⟩, ⟨by have h := HE2.out; simp only [List.length_append, List.length_singleton] at h; exact h⟩⟩
                    · have hx := HX.out
                      rw [if_neg hlt] at hx
                      have hltb : decide ((lq.length : Int) < wrap64 (99 + p)) = false := decide_eq_false hlt
                      simp only [Option.some.injEq] at hx
                      subst hx
                      clear HX hlt
                      refine start_ (n := 7) (S := fun w' => w'.cell? ⟨gT, 1, none⟩ = some (.slice (some ⟨Gq, 0, none⟩) lq.length cq)) (ds := []) #[false,false,false,false,false,false,false] (by kernel_rfl) rfl rfl ((blk_cell HE.out.hT 1).trans rfl) (fun hHeld => ?_)
                      generalize wr.drew = w5 at hHeld HE ⊢
                      refine pure_ (i := 0) (N := (some 71)) (v := ?_) (a' := ?_) #[true,false,false,false,false,false,false] rfl rfl (by kernel_rfl) (fun _ _ _ h => h) (Or.inl ⟨by rfl, ?_⟩) ?_ ?_
                      rotate_left
                      · intro w'
                        go_simp
                        with_reducible rfl
                      rotate_left
                      · simp only [Act.put, List.setIfInBounds_toArray, List.set_cons_zero, List.set_cons_succ, i64_w, i32_w]
                        rfl
                      refine take_ (i := 1) (N := (some 72)) (v := ?_) (a' := ?_) #[true,true,false,false,false,false,false] rfl rfl (by kernel_rfl) (fun _ _ _ h => h) (Or.inl ⟨by rfl, ?_⟩) hHeld ?_ ?_
                      rotate_left
                      · intro w' s0
                        go_simp
                        with_reducible rfl
                      rotate_left
                      · simp only [Act.put, List.setIfInBounds_toArray, List.set_cons_zero, List.set_cons_succ, i64_w, i32_w]
                        rfl
                      refine pure_ (i := 2) (N := (some 73)) (v := ?_) (a' := ?_) #[true,true,true,false,false,false,false] rfl rfl (by kernel_rfl) (fun _ _ _ h => h) (Or.inl ⟨by rfl, ?_⟩) ?_ ?_
                      rotate_left
                      · intro w'
                        go_simp
                        with_reducible rfl
                      rotate_left
                      · simp only [Act.put, List.setIfInBounds_toArray, List.set_cons_zero, List.set_cons_succ, i64_w, i32_w]
                        rfl
                      refine pure_ (i := 3) (N := (some 74)) (v := ?_) (a' := ?_) #[true,true,true,true,false,false,false] rfl rfl (by kernel_rfl) (fun _ _ _ h => h) (Or.inl ⟨by rfl, ?_⟩) ?_ ?_
                      rotate_left
                      · intro w'
                        go_simp
                        with_reducible rfl
                      rotate_left
                      · simp only [Act.put, List.setIfInBounds_toArray, List.set_cons_zero, List.set_cons_succ, i64_w, i32_w]
                        rfl
                      refine one_ (i := 4) (N := (some 75)) #[true,true,true,true,true,false,false] rfl rfl (by kernel_rfl) (by decide) (fun K hK => ?_)
                      refine goes_ Try.func26 (by kernel_rfl) rfl #[.pointer (some ⟨g, 0, none⟩), .int .i64 3] (by rfl) rfl rfl (by (try simp only [List.map_toArray, List.map_cons, List.map_nil]); first | done | rfl) ?_
                      with_reducible refine (spec_l1Cur_pick.calls g s0 t1 t2 3 p p1 p2 w0 _ HE.out.hI HE.out.hB HP.out).mono ?_
                      rintro e w6 ⟨rfl, hi, hb, hk⟩
                      refine ⟨_, rfl, ?_⟩
                      replace HE := Aside0.mk (HE.out.read hi hb hk)
                      clear hi hb hk
                      refine hK.out _ _ ((blk_cell HE.out.hT 1).trans rfl) (fun hHeld2 => ?_)
                      clear hK K hHeld
                      have hHeld := hHeld2
                      clear hHeld2
                      refine norm_ (a' := ?_) ?_ ?_
                      rotate_left
                      · show Act.put _ (some 75) _ = _
                        simp only [Act.put, List.setIfInBounds_toArray, List.set_cons_zero, List.set_cons_succ, i64_w, i32_w]
                        rfl
                      refine pure_ (i := 5) (N := (some 76)) (v := ?_) (a' := ?_) #[true,true,true,true,true,true,false] rfl rfl (by kernel_rfl) (fun _ _ _ h => h) (Or.inl ⟨by rfl, ?_⟩) ?_ ?_
                      rotate_left
                      · intro w'
                        go_simp
                        with_reducible rfl
                      rotate_left
                      · simp only [Act.put, List.setIfInBounds_toArray, List.set_cons_zero, List.set_cons_succ, i64_w, i32_w]
                        rfl
                      refine pure_ (i := 6) (N := (some 77)) (v := .bool false) (a' := ?_) #[true,true,true,true,true,true,true] rfl rfl (by kernel_rfl) (fun _ _ _ h => h) (Or.inl ⟨by rfl, ?_⟩) ?_ ?_
                      · intro w'
                        go_simp
                        first | done | rfl | (rw [if_pos (by decide), if_pos (by decide)]; rfl) | (congr 3; done) | (congr 3; kernel_rfl)
                      rotate_left
                      · simp only [Act.put, List.setIfInBounds_toArray, List.set_cons_zero, List.set_cons_succ, i64_w, i32_w]
                        rfl
                      refine done_ (by kernel_rfl) ?_
                      clear hHeld HP
                      have HE5 := HE
                      clear HE
                      generalize w6 = w5 at HE5 ⊢
                      skip
                      have hcz0 : w5.cell? ⟨gT, 0, none⟩ = some (.int .i64 id) := (blk_cell HE5.out.hT 0).trans rfl
                      have hcz1 : w5.cell? ⟨gT, 1, none⟩ = some (.slice (some ⟨Gq, 0, none⟩) (lq).length cq) := (blk_cell HE5.out.hT 1).trans rfl
                      have hfz0 := blk_frozen HE5.out.hT 0
                      have hfz1 := blk_frozen HE5.out.hT 1
                      have hrz0 : w5.cell? ⟨gR, 0, none⟩ = some (.int .i64 0) := (blk_cell HE5.out.hO 0).trans rfl
                      have hrz1 : w5.cell? ⟨gR, 1, none⟩ = some (.slice none 0 0) := (blk_cell HE5.out.hO 1).trans rfl
                      have hgz0 := blk_frozen HE5.out.hO 0
                      have hgz1 := blk_frozen HE5.out.hO 1
                      have hn1 := HE5.out.ne
                      have hn2 := hn1.symm
                      go_wp2
                      refine bodyPost_ret (results_cell_row rfl _ _ gR 25 #[.int .i64 id, .slice (some ⟨Gq, 0, none⟩) (lq).length cq] (0, 0) _ rfl (blk_put (cs := #[.int .i64 id, .slice none 0 0]) (blk_put (cs := #[.int .i64 0, .slice none 0 0]) HE5.out.hO 0 _ rfl) 1 _ rfl) Try.underlying25 rfl (by kernel_rfl)) rfl ?_
                      exact ⟨_, rfl, Kd.R_mono (Kd.R_far (p := ⟨gR, 1, none⟩) (Kd.R_far (p := ⟨gR, 0, none⟩) (Kd.R_types HE5.out.hR HE5.out.hO (by decide)) (fun _ hk => hk.2) _) (fun _ hk => hk.2) _) (fun _ _ => trivial), below_set (below_set HE5.out.hB HE5.out.gR_ge) HE5.out.gR_ge, blk_far (blk_far HE5.out.hV (p := ⟨gR, 0, none⟩) HE5.out.nR _) (p := ⟨gR, 1, none⟩) HE5.out.nR _⟩
              · rw [if_neg e6] at H
                have b6 : (q == 6) = false := beq_eq_false_iff_ne.mpr e6
                have HV := H.out
                simp only [Option.some.injEq, Prod.mk.injEq] at HV
                obtain ⟨rfl, rfl⟩ := HV
                clear H
                go_upto_region 21 with (fail)
                have HE5 := HE4
                clear HE4
                generalize w4 = w5 at HE5 ⊢
                have hcz0 : w5.cell? ⟨gT, 0, none⟩ = some (.int .i64 id) := (blk_cell HE5.out.hT 0).trans rfl
                have hcz1 : w5.cell? ⟨gT, 1, none⟩ = some (.slice (some ⟨G, 0, none⟩) (l).length c) := (blk_cell HE5.out.hT 1).trans rfl
                have hfz0 := blk_frozen HE5.out.hT 0
                have hfz1 := blk_frozen HE5.out.hT 1
                have hrz0 : w5.cell? ⟨gR, 0, none⟩ = some (.int .i64 0) := (blk_cell HE5.out.hO 0).trans rfl
                have hrz1 : w5.cell? ⟨gR, 1, none⟩ = some (.slice none 0 0) := (blk_cell HE5.out.hO 1).trans rfl
                have hgz0 := blk_frozen HE5.out.hO 0
                have hgz1 := blk_frozen HE5.out.hO 1
                have hn1 := HE5.out.ne
                have hn2 := hn1.symm
                go_wp2
                refine bodyPost_ret (results_cell_row rfl _ _ gR 25 #[.int .i64 id, .slice (some ⟨G, 0, none⟩) (l).length c] (0, 0) _ rfl (blk_put (cs := #[.int .i64 id, .slice none 0 0]) (blk_put (cs := #[.int .i64 0, .slice none 0 0]) HE5.out.hO 0 _ rfl) 1 _ rfl) Try.underlying25 rfl (by kernel_rfl)) rfl ?_
                exact ⟨_, rfl, Kd.R_mono (Kd.R_far (p := ⟨gR, 1, none⟩) (Kd.R_far (p := ⟨gR, 0, none⟩) (Kd.R_types HE5.out.hR HE5.out.hO (by decide)) (fun _ hk => hk.2) _) (fun _ hk => hk.2) _) (fun _ _ => trivial), below_set (below_set HE5.out.hB HE5.out.gR_ge) HE5.out.gR_ge, blk_far (blk_far HE5.out.hV (p := ⟨gR, 0, none⟩) HE5.out.nR _) (p := ⟨gR, 1, none⟩) HE5.out.nR _⟩
end Go.Proofs.Ytalhphclogbpnaa.PFnCritical
