/- spec.l23Meets: whether a policy takes a trace. -/
import Derived.Test.YthcamcmjafhehaaDoorPFnExactKeepTracesx3
import Derived.Test.YthcamcmjafhehaaDoorPFnExactKeepTracesx3
import Derived.Test.YthcamcmjafhehaaDoorHTraceDefs
import Derived.StillTailTactics
namespace Go.Proofs.YthcamcmjafhehaaDoor.PFnExactKeepTraces
open Go.RowKit Go.Proofs.YthcamcmjafhehaaDoorW.PrintWords Go.Proofs.YthcamcmjafhehaaDoorW.PrintLast Go.Proofs.YthcamcmjafhehaaDoorW.PrintMore
set_option linter.unusedVariables false
set_option linter.unusedSimpArgs false
abbrev rdC := rd_T60
def takesB (kd : Int) (sv : ByteArray) (x : SC) : Bool := (decide (kd = 1) && x.f6) || (decide (kd = 3) && (x.f2.toList == sv.toList))
theorem takes_1 (sv : ByteArray) (x : SC) : takesB 1 sv x = x.f6 := by unfold takesB; rw [decide_eq_true rfl, decide_eq_false (by decide)]; simp
theorem takes_3 (sv : ByteArray) (x : SC) : takesB 3 sv x = (x.f2.toList == sv.toList) := by unfold takesB; rw [decide_eq_false (by decide), decide_eq_true rfl]; simp
theorem takes_o {kd : Int} (h1 : kd ≠ 1) (h3 : kd ≠ 3) (sv : ByteArray) (x : SC) : takesB kd sv x = false := by unfold takesB; rw [decide_eq_false h1, decide_eq_false h3]; rfl
def spec_l23Meets.f (k : Nat) (kd least : Int) (sv : ByteArray) (id : Int) (l : List SC) : Option Bool :=
  if kd = 2 then (if 0 < l.length then some (decide (wrap64 ((rdC l 0).f5 - (rdC l 0).f4) ≥ least)) else none)
  else if kd = 4 then (spec_l2Num.f k id).bind fun s => if s.size ≤ 1048576 then (spec_Mix.f k (bytesOf s)).bind fun m => some (decide (Int.tmod m 1000 < least)) else none
  else if kd = 5 then some true
  else if l.length ≤ 1048576 then some (l.any (takesB kd sv)) else none
theorem spec_l23Meets.mono (kd least : Int) (sv : ByteArray) (id : Int) (l : List SC) (k : Nat) : LeO (spec_l23Meets.f k kd least sv id l) (spec_l23Meets.f (k + 1) kd least sv id l) := by
  unfold spec_l23Meets.f
  refine LeO.ite (LeO.refl _) (LeO.ite (LeO.bind (spec_l2Num.mono _ _) (fun s => LeO.ite (LeO.bind (spec_Mix.mono _ _) (fun m => LeO.refl _)) (LeO.refl _))) (LeO.refl _))
theorem bytes_C (W : World) (e : TypeId) (s : ByteArray) (hs : s.size ≤ 9223372036854775807) : Kd.C (Kd.int .u8) (Lib.bytesWorld W e s) (some ⟨W.heap.size, 0, none⟩) (bytesOf s).length (bytesOf s) := by
  rw [bytesOf_length]
  exact Kd.C_of_reads (enc := Value.int .u8) (d := (0 : Int)) (h1 := fun _ => rfl) (bytes_reads W e s hs)
theorem two_boxes (w : World) (o0 o1 : Obj) : ((w.alloc o0).alloc o1).heap[w.heap.size]? = some o0 ∧ ((w.alloc o0).alloc o1).heap[w.heap.size + 1]? = some o1 ∧ Below w.heap.size w ((w.alloc o0).alloc o1) := by
  have sz : ∀ (w : World) (o : Obj), (w.alloc o).heap.size = w.heap.size + 1 := fun w o => by first | rfl | (rw [World.alloc_eq]; exact Array.size_push _) | simp
  have b1 := blk_new (w.alloc o0) o1
  rw [sz] at b1
  exact ⟨blk_alloc (blk_new w _) _, b1, below_alloc (below_alloc (Below.refl _ _) _) _⟩
set_option maxHeartbeats 8000000 in
set_option maxRecDepth 100000 in
theorem spec_l23Meets.calls (k : Nat) (kd least : Int) (sv : ByteArray) (id : Int) (A : Option Addr) (c : Nat) (l : List SC) (r : Bool) (w : World) (hr : Kd.C k60 w A l.length l) (hc : l.length ≤ c) (h : spec_l23Meets.f k kd least sv id l = some r) :
    Calls Tryd.prog 21 #[.agg #[.int .i64 kd, .int .i64 least, .string sv], .agg #[.int .i64 id, .slice A l.length c]] w fun e w' => e = .returned (.bool r) ∧ Below w.heap.size w w' := by
  unfold spec_l23Meets.f at h
  obtain ⟨bp, bt, bb⟩ := two_boxes w (.cells #[.int .i64 kd, .int .i64 least, .string sv] 52) (.cells #[.int .i64 id, .slice A l.length c] 51)
  have HP := Aside0.mk bp
  have HT := Aside0.mk bt
  have HB := Aside0.mk bb
  have HC := Aside0.mk (Kd.C_below hr bb)
  have H := Aside0.mk h
  clear bp bt bb hr h
  go_enter Tryd.func21, Tryd.ntmps21
  go_upto_region 1 with (fail)
  generalize (w.alloc (.cells #[.int .i64 kd, .int .i64 least, .string sv] 52)).alloc (.cells #[.int .i64 id, .slice A l.length c] 51) = W at HP HT HB HC ⊢
  generalize hgT : w.heap.size + 1 = gT at HT ⊢
  have hp0 : W.cell? ⟨w.heap.size, 0, none⟩ = some (.int .i64 kd) := (blk_cell HP.out 0).trans rfl
  by_cases e2 : kd = 2
  · have hx := H.out
    rw [if_pos e2] at hx
    clear H
    by_cases hl : 0 < l.length
    case neg => rw [if_neg hl] at hx; cases hx
    rw [if_pos hl] at hx
    obtain rfl := Option.some.inj hx
    clear hx
    have b2 : (kd == 2) = true := beq_iff_eq.mpr e2
    obtain ⟨ad, hA, hx0, hx1, hx2, hx3, hx4, hx5, hx6⟩ := at_T60 HC.out 0 (by omega) (by omega)
    subst hA
    rw [show ad.add (Int.toNat 0 * 7) = ad from by cases ad; rfl] at hx0 hx1 hx2 hx3 hx4 hx5 hx6
    have h4 := Aside0.mk hx4
    have h5 := Aside0.mk hx5
    clear hx0 hx1 hx2 hx3 hx4 hx5 hx6
    have hlz : (0 : Int) < (l.length : Int) := by omega
    subst e2
    go_upto_region 3 with (fail)
    clear hp0
    replace HB := Aside0.mk (below_drew1 HB.out)
    refine start_ (n := 15) (S := fun w' => w'.cell? ⟨gT, 1, none⟩ = some (.slice (some ad) l.length c) ∧ w'.cell? ⟨ad.block, ad.off + 5, none⟩ = some (.int .i64 (rdC l 0).f5) ∧ w'.cell? ⟨ad.block, ad.off + 4, none⟩ = some (.int .i64 (rdC l 0).f4) ∧ w'.cell? ⟨w.heap.size, 1, none⟩ = some (.int .i64 least)) (ds := []) #[false,false,false,false,false,false,false,false,false,false,false,false,false,false,false] (by kernel_rfl) rfl rfl (⟨(blk_cell HT.out 1).trans rfl, h5.out, h4.out, (blk_cell HP.out 1).trans rfl⟩) (fun hHeld => ?_)
    generalize W.drew = W2 at hHeld HB ⊢
    refine pure_ (i := 0) (N := (some 11)) (v := ?_) (a' := ?_) #[true,false,false,false,false,false,false,false,false,false,false,false,false,false,false] rfl rfl (by kernel_rfl) (fun _ _ _ h => h) (Or.inl ⟨by rfl, ?_⟩) ?_ ?_
    rotate_left
    · intro w'
      go_simp
      with_reducible rfl
    rotate_left
    · simp only [Act.put, List.setIfInBounds_toArray, List.set_cons_zero, List.set_cons_succ, i64_w, i32_w]
      rfl
    refine take_ (i := 1) (N := (some 12)) (v := ?_) (a' := ?_) #[true,true,false,false,false,false,false,false,false,false,false,false,false,false,false] rfl rfl (by kernel_rfl) (fun _ _ _ h => h) (Or.inl ⟨by rfl, ?_⟩) hHeld ?_ ?_
    rotate_left
    · rintro w' ⟨s0, s1, s2, s3⟩
      go_simp
      with_reducible rfl
    rotate_left
    · simp only [Act.put, List.setIfInBounds_toArray, List.set_cons_zero, List.set_cons_succ, i64_w, i32_w]
      rfl
    refine pure_ (i := 2) (N := (some 13)) (v := ?_) (a' := ?_) #[true,true,true,false,false,false,false,false,false,false,false,false,false,false,false] rfl rfl (by kernel_rfl) (fun _ _ _ h => h) (Or.inl ⟨by rfl, ?_⟩) ?_ ?_
    rotate_left
    · intro w'
      go_simp
      with_reducible rfl
    rotate_left
    · simp only [Act.put, List.setIfInBounds_toArray, List.set_cons_zero, List.set_cons_succ, i64_w, i32_w]
      rfl
    refine pure_ (i := 3) (N := (some 14)) (v := ?_) (a' := ?_) #[true,true,true,true,false,false,false,false,false,false,false,false,false,false,false] rfl rfl (by kernel_rfl) (fun _ _ _ h => h) (Or.inl ⟨by rfl, ?_⟩) ?_ ?_
    rotate_left
    · intro w'
      go_simp
      with_reducible rfl
    rotate_left
    · simp only [Act.put, List.setIfInBounds_toArray, List.set_cons_zero, List.set_cons_succ, i64_w, i32_w]
      rfl
    refine take_ (i := 4) (N := (some 15)) (v := ?_) (a' := ?_) #[true,true,true,true,true,false,false,false,false,false,false,false,false,false,false] rfl rfl (by kernel_rfl) (fun _ _ _ h => h) (Or.inl ⟨by rfl, ?_⟩) hHeld ?_ ?_
    rotate_left
    · rintro w' ⟨s0, s1, s2, s3⟩
      go_simp
      with_reducible rfl
    rotate_left
    · simp only [Act.put, List.setIfInBounds_toArray, List.set_cons_zero, List.set_cons_succ, i64_w, i32_w]
      rfl
    refine pure_ (i := 5) (N := (some 16)) (v := ?_) (a' := ?_) #[true,true,true,true,true,true,false,false,false,false,false,false,false,false,false] rfl rfl (by kernel_rfl) (fun _ _ _ h => h) (Or.inl ⟨by rfl, ?_⟩) ?_ ?_
    rotate_left
    · intro w'
      go_simp
      with_reducible rfl
    rotate_left
    · simp only [Act.put, List.setIfInBounds_toArray, List.set_cons_zero, List.set_cons_succ, i64_w, i32_w]
      rfl
    refine take_ (i := 6) (N := (some 17)) (v := ?_) (a' := ?_) #[true,true,true,true,true,true,true,false,false,false,false,false,false,false,false] rfl rfl (by kernel_rfl) (fun _ _ _ h => h) (Or.inl ⟨by rfl, ?_⟩) hHeld ?_ ?_
    rotate_left
    · rintro w' ⟨s0, s1, s2, s3⟩
      go_simp
      with_reducible rfl
    rotate_left
    · simp only [Act.put, List.setIfInBounds_toArray, List.set_cons_zero, List.set_cons_succ, i64_w, i32_w]
      rfl
    refine pure_ (i := 7) (N := (some 18)) (v := ?_) (a' := ?_) #[true,true,true,true,true,true,true,true,false,false,false,false,false,false,false] rfl rfl (by kernel_rfl) (fun _ _ _ h => h) (Or.inl ⟨by rfl, ?_⟩) ?_ ?_
    rotate_left
    · intro w'
      go_simp
      with_reducible rfl
    rotate_left
    · simp only [Act.put, List.setIfInBounds_toArray, List.set_cons_zero, List.set_cons_succ, i64_w, i32_w]
      rfl
    refine pure_ (i := 8) (N := (some 19)) (v := ?_) (a' := ?_) #[true,true,true,true,true,true,true,true,true,false,false,false,false,false,false] rfl rfl (by kernel_rfl) (fun _ _ _ h => h) (Or.inl ⟨by rfl, ?_⟩) ?_ ?_
    rotate_left
    · intro w'
      go_simp
      with_reducible rfl
    rotate_left
    · simp only [Act.put, List.setIfInBounds_toArray, List.set_cons_zero, List.set_cons_succ, i64_w, i32_w]
      rfl
    refine take_ (i := 9) (N := (some 20)) (v := ?_) (a' := ?_) #[true,true,true,true,true,true,true,true,true,true,false,false,false,false,false] rfl rfl (by kernel_rfl) (fun _ _ _ h => h) (Or.inl ⟨by rfl, ?_⟩) hHeld ?_ ?_
    rotate_left
    · rintro w' ⟨s0, s1, s2, s3⟩
      go_simp
      with_reducible rfl
    rotate_left
    · simp only [Act.put, List.setIfInBounds_toArray, List.set_cons_zero, List.set_cons_succ, i64_w, i32_w]
      rfl
    refine pure_ (i := 10) (N := (some 21)) (v := ?_) (a' := ?_) #[true,true,true,true,true,true,true,true,true,true,true,false,false,false,false] rfl rfl (by kernel_rfl) (fun _ _ _ h => h) (Or.inl ⟨by rfl, ?_⟩) ?_ ?_
    rotate_left
    · intro w'
      go_simp
      with_reducible rfl
    rotate_left
    · simp only [Act.put, List.setIfInBounds_toArray, List.set_cons_zero, List.set_cons_succ, i64_w, i32_w]
      rfl
    refine pure_ (i := 11) (N := (some 22)) (v := ?_) (a' := ?_) #[true,true,true,true,true,true,true,true,true,true,true,true,false,false,false] rfl rfl (by kernel_rfl) (fun _ _ _ h => h) (Or.inl ⟨by rfl, ?_⟩) ?_ ?_
    rotate_left
    · intro w'
      go_simp
      with_reducible rfl
    rotate_left
    · simp only [Act.put, List.setIfInBounds_toArray, List.set_cons_zero, List.set_cons_succ, i64_w, i32_w]
      rfl
    refine take_ (i := 12) (N := (some 23)) (v := ?_) (a' := ?_) #[true,true,true,true,true,true,true,true,true,true,true,true,true,false,false] rfl rfl (by kernel_rfl) (fun _ _ _ h => h) (Or.inl ⟨by rfl, ?_⟩) hHeld ?_ ?_
    rotate_left
    · rintro w' ⟨s0, s1, s2, s3⟩
      go_simp
      with_reducible rfl
    rotate_left
    · simp only [Act.put, List.setIfInBounds_toArray, List.set_cons_zero, List.set_cons_succ, i64_w, i32_w]
      rfl
    refine pure_ (i := 13) (N := (some 24)) (v := ?_) (a' := ?_) #[true,true,true,true,true,true,true,true,true,true,true,true,true,true,false] rfl rfl (by kernel_rfl) (fun _ _ _ h => h) (Or.inl ⟨by rfl, ?_⟩) ?_ ?_
    rotate_left
    · intro w'
      go_simp
      with_reducible rfl
    rotate_left
    · simp only [Act.put, List.setIfInBounds_toArray, List.set_cons_zero, List.set_cons_succ, i64_w, i32_w]
      rfl
    refine pure_ (i := 14) (N := (some 4)) (v := ?_) (a' := ?_) #[true,true,true,true,true,true,true,true,true,true,true,true,true,true,true] rfl rfl (by kernel_rfl) (fun _ _ _ h => h) (Or.inl ⟨by rfl, ?_⟩) ?_ ?_
    rotate_left
    · intro w'
      go_simp
      with_reducible rfl
    rotate_left
    · simp only [Act.put, List.setIfInBounds_toArray, List.set_cons_zero, List.set_cons_succ, i64_w, i32_w]
      rfl
    refine done_ (by kernel_rfl) ?_
    try go_wp2
    go_ret
    exact ⟨rfl, by first | exact HB.out | exact below_drew1 HB.out | (repeat (first | exact HB.out | apply pw_below_drewN | apply below_drew1))⟩
  · have hx := H.out
    rw [if_neg e2] at hx
    clear H
    have H := Aside0.mk hx
    clear hx
    have b2 : (kd == 2) = false := beq_eq_false_iff_ne.mpr e2
    by_cases e4 : kd = 4
    · have hx := H.out
      rw [if_pos e4] at hx
      clear H
      have b4 : (kd == 4) = true := beq_iff_eq.mpr e4
      obtain ⟨s, hs, hx⟩ := Option.bind_eq_some_iff.1 hx
      by_cases hsz : s.size ≤ 1048576
      case neg => rw [if_neg hsz] at hx; cases hx
      rw [if_pos hsz] at hx
      obtain ⟨m, hm, hx⟩ := Option.bind_eq_some_iff.1 hx
      obtain rfl := Option.some.inj hx
      have HS := Aside0.mk hs
      have HM := Aside0.mk hm
      have HZ := Aside0.mk hsz
      clear hs hm hx hsz
      have kb := fun W : World => print_bytes (P := Tryd.prog) 9 63 5 Tryd.underlying9 Tryd.underlying63 Tryd.underlying5 s W
      subst e4
      go_upto_region 5 with (fail)
      clear hp0
      replace HT := Aside0.mk (blk_drew HT.out)
      replace HP := Aside0.mk (blk_drew HP.out)
      replace HB := Aside0.mk (below_drew1 HB.out)
      refine start_ (n := 10) (S := fun w' => w'.cell? ⟨gT, 0, none⟩ = some (.int .i64 id) ∧ w'.cell? ⟨w.heap.size, 1, none⟩ = some (.int .i64 least)) (ds := []) #[false,false,false,false,false,false,false,false,false,false] (by kernel_rfl) rfl rfl (⟨(blk_cell HT.out 0).trans rfl, (blk_cell HP.out 1).trans rfl⟩) (fun hHeld => ?_)
      generalize W.drew = W2 at hHeld HT HP HB ⊢
      refine pure_ (i := 0) (N := (some 27)) (v := ?_) (a' := ?_) #[true,false,false,false,false,false,false,false,false,false] rfl rfl (by kernel_rfl) (fun _ _ _ h => h) (Or.inl ⟨by rfl, ?_⟩) ?_ ?_
      rotate_left
      · intro w'
        go_simp
        with_reducible rfl
      rotate_left
      · simp only [Act.put, List.setIfInBounds_toArray, List.set_cons_zero, List.set_cons_succ, i64_w, i32_w]
        rfl
      refine take_ (i := 1) (N := (some 28)) (v := ?_) (a' := ?_) #[true,true,false,false,false,false,false,false,false,false] rfl rfl (by kernel_rfl) (fun _ _ _ h => h) (Or.inl ⟨by rfl, ?_⟩) hHeld ?_ ?_
      rotate_left
      · rintro w' ⟨s0, s1⟩
        go_simp
        with_reducible rfl
      rotate_left
      · simp only [Act.put, List.setIfInBounds_toArray, List.set_cons_zero, List.set_cons_succ, i64_w, i32_w]
        rfl
      refine pure_ (i := 6) (N := (some 33)) (v := ?_) (a' := ?_) #[true,true,false,false,false,false,true,false,false,false] rfl rfl (by kernel_rfl) (fun _ _ _ h => h) (Or.inl ⟨by rfl, ?_⟩) ?_ ?_
      rotate_left
      · intro w'
        go_simp
        with_reducible rfl
      rotate_left
      · simp only [Act.put, List.setIfInBounds_toArray, List.set_cons_zero, List.set_cons_succ, i64_w, i32_w]
        rfl
      refine take_ (i := 7) (N := (some 34)) (v := ?_) (a' := ?_) #[true,true,false,false,false,false,true,true,false,false] rfl rfl (by kernel_rfl) (fun _ _ _ h => h) (Or.inl ⟨by rfl, ?_⟩) hHeld ?_ ?_
      rotate_left
      · rintro w' ⟨s0, s1⟩
        go_simp
        with_reducible rfl
      rotate_left
      · simp only [Act.put, List.setIfInBounds_toArray, List.set_cons_zero, List.set_cons_succ, i64_w, i32_w]
        rfl
      refine one_ (i := 2) (N := (some 29)) #[true,true,true,false,false,false,true,true,false,false] rfl rfl (by kernel_rfl) (by decide) (fun K hK => ?_)
      refine goes_ Tryd.func42 (by kernel_rfl) rfl #[.int .i64 id] (by rfl) rfl rfl (by (try simp only [List.map_toArray, List.map_cons, List.map_nil]); first | done | rfl) ?_
      with_reducible refine (spec_l2Num.calls k id s _ HS.out).mono ?_
      rintro e W3 ⟨rfl, hb⟩
      refine ⟨_, rfl, ?_⟩
      replace HT := Aside0.mk (blk_below HT.out hb)
      replace HP := Aside0.mk (blk_below HP.out hb)
      replace HB := Aside0.mk (below_step HB.out hb)
      clear hb
      refine hK.out _ _ (⟨(blk_cell HT.out 0).trans rfl, (blk_cell HP.out 1).trans rfl⟩) (fun hHeld2 => ?_)
      clear hK K hHeld
      have hHeld := hHeld2
      clear hHeld2
      refine norm_ (a' := ?_) ?_ ?_
      rotate_left
      · show Act.put _ (some 29) _ = _
        simp only [Act.put, List.setIfInBounds_toArray, List.set_cons_zero, List.set_cons_succ, i64_w, i32_w]
        rfl
      refine one_ (i := 3) (N := (some 30)) #[true,true,true,true,false,false,true,true,false,false] rfl rfl (by kernel_rfl) (by decide) (fun K hK => ?_)
      refine value_ (w1 := ?_) (v := ?_) (by rfl) rfl ?_ ?_
      rotate_left 2
      · go_simp
        first | done | rfl | (constructor <;> rfl)
      have HCB := Aside0.mk (bytes_C W3 5 s (by have := HZ.out; omega))
      have hbw : Below W3.heap.size W3 (Lib.bytesWorld W3 5 s) := bytes_below (Below.refl _ _) (Nat.le_refl _) _ _
      replace HT := Aside0.mk (blk_below HT.out hbw)
      replace HP := Aside0.mk (blk_below HP.out hbw)
      replace HB := Aside0.mk (below_step HB.out hbw)
      clear hbw kb
      refine hK.out _ _ (⟨(blk_cell HT.out 0).trans rfl, (blk_cell HP.out 1).trans rfl⟩) (fun hHeld2 => ?_)
      clear hK K hHeld
      have hHeld := hHeld2
      clear hHeld2
      refine norm_ (a' := ?_) ?_ ?_
      rotate_left
      · show Act.put _ (some 30) _ = _
        simp only [Act.put, List.setIfInBounds_toArray, List.set_cons_zero, List.set_cons_succ, i64_w, i32_w]
        rfl
      refine one_ (i := 4) (N := (some 31)) #[true,true,true,true,true,false,true,true,false,false] rfl rfl (by kernel_rfl) (by decide) (fun K hK => ?_)
      refine goes_ Tryd.func41 (by kernel_rfl) rfl #[.slice (some ⟨W3.heap.size, 0, none⟩) (bytesOf s).length (grownCap W3 s.size 0 5)] (by rfl) rfl rfl (by (try simp only [List.map_toArray, List.map_cons, List.map_nil, bytesOf_length]); first | done | rfl) ?_
      with_reducible refine (spec_Mix.calls k _ _ (bytesOf s) m _ HCB.out (by rw [bytesOf_length]; exact grownCap_ge _ _ _ _) HM.out).mono ?_
      rintro e W5 ⟨rfl, nd, rfl⟩
      refine ⟨_, rfl, ?_⟩
      replace HT := Aside0.mk (blk_drewN HT.out nd)
      replace HP := Aside0.mk (blk_drewN HP.out nd)
      replace HB := Aside0.mk (pw_below_drewN HB.out nd)
      refine hK.out _ _ (⟨(blk_cell HT.out 0).trans rfl, (blk_cell HP.out 1).trans rfl⟩) (fun hHeld2 => ?_)
      clear hK K hHeld
      have hHeld := hHeld2
      clear hHeld2
      refine norm_ (a' := ?_) ?_ ?_
      rotate_left
      · show Act.put _ (some 31) _ = _
        simp only [Act.put, List.setIfInBounds_toArray, List.set_cons_zero, List.set_cons_succ, i64_w, i32_w]
        rfl
      refine pure_ (i := 5) (N := (some 32)) (v := ?_) (a' := ?_) #[true,true,true,true,true,true,true,true,false,false] rfl rfl (by kernel_rfl) (fun _ _ _ h => h) (Or.inl ⟨by rfl, ?_⟩) ?_ ?_
      rotate_left
      · intro w'
        go_simp
        with_reducible rfl
      rotate_left
      · simp only [Act.put, List.setIfInBounds_toArray, List.set_cons_zero, List.set_cons_succ, i64_w, i32_w]
        rfl
      refine pure_ (i := 8) (N := (some 35)) (v := ?_) (a' := ?_) #[true,true,true,true,true,true,true,true,true,false] rfl rfl (by kernel_rfl) (fun _ _ _ h => h) (Or.inl ⟨by rfl, ?_⟩) ?_ ?_
      rotate_left
      · intro w'
        go_simp
        with_reducible rfl
      rotate_left
      · simp only [Act.put, List.setIfInBounds_toArray, List.set_cons_zero, List.set_cons_succ, i64_w, i32_w]
        rfl
      refine pure_ (i := 9) (N := (some 4)) (v := ?_) (a' := ?_) #[true,true,true,true,true,true,true,true,true,true] rfl rfl (by kernel_rfl) (fun _ _ _ h => h) (Or.inl ⟨by rfl, ?_⟩) ?_ ?_
      rotate_left
      · intro w'
        go_simp
        with_reducible rfl
      rotate_left
      · simp only [Act.put, List.setIfInBounds_toArray, List.set_cons_zero, List.set_cons_succ, i64_w, i32_w]
        rfl
      refine done_ (by kernel_rfl) ?_
      try go_wp2
      go_ret
      exact ⟨rfl, by first | exact HB.out | exact below_drew1 HB.out | (repeat (first | exact HB.out | apply pw_below_drewN | apply below_drew1))⟩
    · have hx := H.out
      rw [if_neg e4] at hx
      clear H
      have H := Aside0.mk hx
      clear hx
      have b4 : (kd == 4) = false := beq_eq_false_iff_ne.mpr e4
      by_cases e5 : kd = 5
      · have hx := H.out
        rw [if_pos e5] at hx
        clear H
        obtain rfl := Option.some.inj hx
        have b5 : (kd == 5) = true := beq_iff_eq.mpr e5
        clear hx
        subst e5
        go_wp2
        go_ret
        exact ⟨rfl, HB.out⟩
      · have hx := H.out
        rw [if_neg e5] at hx
        clear H
        have b5 : (kd == 5) = false := beq_eq_false_iff_ne.mpr e5
        by_cases hl : l.length ≤ 1048576
        case neg => rw [if_neg hl] at hx; cases hx
        rw [if_pos hl] at hx
        obtain rfl := Option.some.inj hx
        have HL := Aside0.mk hl
        clear hx hl
        have ht1 : W.cell? ⟨gT, 1, none⟩ = some (.slice A l.length c) := (blk_cell HT.out 1).trans rfl
        go_wp2
        clear hp0 ht1 b2 b4 b5 e2 e4 e5
        go_loopg [41] l.length (fun gg s41 wr => ∃ j : Nat, s41 = .int .i64 j ∧ j ≤ l.length ∧ l.length - j ≤ gg ∧ Aside0 (l.any (takesB kd sv) = (l.drop j).any (takesB kd sv)) ∧ Aside0 (wr.heap[gT]? = some (.cells #[.int .i64 id, .slice A l.length c] 51 (0, 0))) ∧ Aside0 (wr.heap[w.heap.size]? = some (.cells #[.int .i64 kd, .int .i64 least, .string sv] 52 (0, 0))) ∧ Aside0 (Below w.heap.size w wr) ∧ Aside0 (Kd.C k60 wr A l.length l))
        case atStart => exact ⟨0, rfl, Nat.zero_le _, by omega, ⟨rfl⟩, HT, HP, HB, HC⟩
        case round =>
          clear HT HP HB HC
          obtain ⟨j, rfl, hj, hg, HA, HT, HP, HB, HC⟩ := hrel
          by_cases hlt : j < l.length
          · have hltz : (j : Int) < (l.length : Int) := by omega
            obtain ⟨ad, hA, hx0, hx1, hx2, hx3, hx4, hx5, hx6⟩ := at_T60 HC.out (j : Int) (by omega) hltz
            subst hA
            rw [Int.toNat_natCast] at hx0 hx1 hx2 hx3 hx4 hx5 hx6
            have hget : rdC l (j : Int) = l[j] := by show l.getD _ _ = _; rw [Int.toNat_natCast, List.getD_eq_getElem?_getD, List.getElem?_eq_getElem hlt]; rfl
            have hstep : (l.drop j).any (takesB kd sv) = (takesB kd sv (rdC l (j : Int)) || (l.drop (j + 1)).any (takesB kd sv)) := by rw [List.drop_eq_getElem_cons hlt, List.any_cons, hget]
            have HST := Aside0.mk hstep
            clear hstep hget
            obtain ⟨x, hX⟩ : ∃ x, x = (rdC l (j : Int)) := ⟨_, rfl⟩
            rw [show rd_T60 l (j : Int) = x from hX.symm] at hx0
            rw [show rd_T60 l (j : Int) = x from hX.symm] at hx1
            rw [show rd_T60 l (j : Int) = x from hX.symm] at hx2
            rw [show rd_T60 l (j : Int) = x from hX.symm] at hx3
            rw [show rd_T60 l (j : Int) = x from hX.symm] at hx4
            rw [show rd_T60 l (j : Int) = x from hX.symm] at hx5
            rw [show rd_T60 l (j : Int) = x from hX.symm] at hx6
            rw [show rdC l (j : Int) = x from hX.symm] at HST
            clear hX
            go_upto_region 11 with (fail)
            have HX := Aside0.mk (blk_new wr (.cells #[.int .i64 x.f0, .int .i64 x.f1, .string x.f2, .string x.f3, .int .i64 x.f4, .int .i64 x.f5, .bool x.f6] 60))
            have hb := below_alloc (Below.refl wr.heap.size wr) (.cells #[.int .i64 x.f0, .int .i64 x.f1, .string x.f2, .string x.f3, .int .i64 x.f4, .int .i64 x.f5, .bool x.f6] 60)
            replace HT := Aside0.mk (blk_below HT.out hb)
            replace HP := Aside0.mk (blk_below HP.out hb)
            replace HB := Aside0.mk (below_alloc HB.out (.cells #[.int .i64 x.f0, .int .i64 x.f1, .string x.f2, .string x.f3, .int .i64 x.f4, .int .i64 x.f5, .bool x.f6] 60))
            replace HC := Aside0.mk (Kd.C_below HC.out hb)
            clear hb hx0 hx1 hx2 hx3 hx4 hx5 hx6
            generalize wr.alloc (.cells #[.int .i64 x.f0, .int .i64 x.f1, .string x.f2, .string x.f3, .int .i64 x.f4, .int .i64 x.f5, .bool x.f6] 60) = W3 at HX HT HP HB HC ⊢
            generalize wr.heap.size = gX at HX ⊢
            have hp0 : W3.cell? ⟨w.heap.size, 0, none⟩ = some (.int .i64 kd) := (blk_cell HP.out 0).trans rfl
            have hp2 : W3.cell? ⟨w.heap.size, 2, none⟩ = some (.string sv) := (blk_cell HP.out 2).trans rfl
            have hx6 : W3.cell? ⟨gX, 6, none⟩ = some (.bool x.f6) := (blk_cell HX.out 6).trans rfl
            have hx2 : W3.cell? ⟨gX, 2, none⟩ = some (.string x.f2) := (blk_cell HX.out 2).trans rfl
            by_cases ht : takesB kd sv x = true
            · have hres : l.any (takesB kd sv) = true := by rw [HA.out, HST.out, ht]; rfl
              have HRES := Aside0.mk hres
              clear hres HA HST
              by_cases e1 : kd = 1
              · have b1 : (kd == 1) = true := beq_iff_eq.mpr e1
                subst e1
                have h6 : x.f6 = true := by rw [← takes_1 sv x]; exact ht
                rw [h6] at hx6
                go_wp2
                go_ret
                exact ⟨by rw [HRES.out]; rfl, HB.out⟩
              · have b1 : (kd == 1) = false := beq_eq_false_iff_ne.mpr e1
                have e3 : kd = 3 := by by_cases e3 : kd = 3; exact e3; rw [takes_o e1 e3] at ht; cases ht
                have b3 : (kd == 3) = true := beq_iff_eq.mpr e3
                subst e3
                have es : (x.f2.toList == sv.toList) = true := by rw [← takes_3 sv x]; exact ht
                go_wp2
                go_ret
                exact ⟨by rw [HRES.out]; rfl, HB.out⟩
            · have hres : l.any (takesB kd sv) = (l.drop (j + 1)).any (takesB kd sv) := by rw [HA.out, HST.out, Bool.eq_false_iff.2 ht]; rfl
              have HRES := Aside0.mk hres
              clear hres HA HST
              have hw : wrap64 ((j : Int) + 1) = ((j + 1 : Nat) : Int) := by have := HL.out; unfold wrap64; omega
              by_cases e1 : kd = 1
              · have b1 : (kd == 1) = true := beq_iff_eq.mpr e1
                subst e1
                have h6 : x.f6 = false := by rw [← takes_1 sv x]; exact Bool.eq_false_iff.2 ht
                rw [h6] at hx6
                go_wp2
                go_roundg (l.length - (j + 1))
                case measure => omega
                case rel => exact ⟨j + 1, by first | rfl | (rw [hw]), by omega, by omega, HRES, HT, HP, HB, HC⟩
              · have b1 : (kd == 1) = false := beq_eq_false_iff_ne.mpr e1
                by_cases e3 : kd = 3
                · have b3 : (kd == 3) = true := beq_iff_eq.mpr e3
                  subst e3
                  have es : (x.f2.toList == sv.toList) = false := by rw [← takes_3 sv x]; exact Bool.eq_false_iff.2 ht
                  go_wp2
                  go_roundg (l.length - (j + 1))
                  case measure => omega
                  case rel => exact ⟨j + 1, by first | rfl | (rw [hw]), by omega, by omega, HRES, HT, HP, HB, HC⟩
                · have b3 : (kd == 3) = false := beq_eq_false_iff_ne.mpr e3
                  go_wp2
                  go_roundg (l.length - (j + 1))
                  case measure => omega
                  case rel => exact ⟨j + 1, by first | rfl | (rw [hw]), by omega, by omega, HRES, HT, HP, HB, HC⟩
          · have e : j = l.length := by omega
            subst e
            have hres : l.any (takesB kd sv) = false := by rw [HA.out, List.drop_length]; rfl
            have HRES := Aside0.mk hres
            clear hres HA
            go_wp2
            go_ret
            exact ⟨by rw [HRES.out]; rfl, HB.out⟩
end Go.Proofs.YthcamcmjafhehaaDoor.PFnExactKeepTraces
