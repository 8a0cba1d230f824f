/- (*l1Cur).trace: the walk. -/
import Derived.Test.YtalhphclogbpnaaHTrDefs
import Derived.StillTailTactics
namespace Go.Proofs.Ytalhphclogbpnaa.PFnCritical
open Go.RowKit Go.Proofs.YtalhphclogbpnaaW.PrintWords Go.Proofs.YtalhphclogbpnaaW.PrintLast Go.Proofs.YtalhphclogbpnaaW.PrintMore
set_option linter.unusedVariables false
set_option linter.unusedSimpArgs false
set_option maxHeartbeats 8000000 in
set_option maxRecDepth 100000 in
theorem spec_l1Cur_trace.calls (k : Nat) (g : Nat) (s0 : List Int) (s1 s2 id r1 : Int) (r2 : List SC) (r3 r4 : Int) (w0 w : World) (hI : IsS41 w0 w g s0 s1 s2) (hB : Below w0.heap.size w0 w) (h : spec_l1Cur_trace.f k s0 s1 s2 id = some (r1, r2, r3, r4)) :
    Calls Try.prog 10 #[.pointer (some ⟨g, 0, none⟩), .int .i64 id] w fun e w' => ∃ v', e = .returned (.agg #[.int .i64 r1, v']) ∧ Kd.R kT 34 w' w0.heap.size (fun _ => True) v' r2 ∧ IsS41 w0 w' g s0 r3 r4 ∧ Below w0.heap.size w0 w' := by
  unfold spec_l1Cur_trace.f at h
  obtain ⟨⟨p, p1, p2⟩, hp, h1⟩ := Option.bind_eq_some_iff.mp h
  clear h
  dsimp only at hp h1
  obtain ⟨⟨lx, t3, t4⟩, hl, h2⟩ := Option.bind_eq_some_iff.mp h1
  clear h1
  simp only [Option.some.injEq, Prod.mk.injEq] at h2
  obtain ⟨rfl, rfl, rfl, rfl⟩ := h2
  have HP := Aside0.mk hp
  have HL := Aside0.mk hl
  have HE := Aside0.mk (TrEnv.start hI hB id)
  clear hp hl hI hB
  have hu25 := Try.underlying25
  have hu34 := Try.underlying34
  go_enter Try.func10, Try.ntmps10
  go_upto_region 2 with (fail)
  generalize (w.alloc (.cells #[.int .i64 0, .slice none 0 0] 25)).alloc (.cells #[.int .i64 id, .slice none 0 0] 25) = W1 at HE ⊢
  generalize w.heap.size = gR at HE ⊢
  generalize gR + 1 = gT at HE ⊢
  go_wp2_with (go_at_call 26; refine (spec_l1Cur_pick.calls g s0 s1 s2 8 p p1 p2 w0 _ HE.out.hI HE.out.hB HP.out).mono ?_; rintro e9 w2 ⟨rfl, hi, hb, hk⟩; replace HE := Aside0.mk (HE.out.read hi hb hk); clear hi hb hk HP)
  go_loopg [6] k (fun kq v6 w' => ∃ (n : Int) (A : Option Addr) (c : Nat) (l : List SC) (t1 t2 : Int), v6 = .int .i64 n ∧ Aside0 (spec_l1Cur_trace.l0 kq n s0 t1 t2 l = some (lx, t3, t4)) ∧ Aside0 (kq ≤ k) ∧ Aside0 (TrEnv w0 g gT gR A c id l s0 t1 t2 (fun _ => True) w'))
  case atStart => exact ⟨wrap64 (1 + p), none, 0, [], p1, p2, rfl, HL, ⟨Nat.le_refl _⟩, HE⟩
  case round =>
    clear HL HE
    obtain ⟨n, A, c, l, u1, u2, rfl, HL, HK, HE⟩ := hrel
    cases gk with
    | zero => exact absurd HL.out (by simp [spec_l1Cur_trace.l0])
    | succ k1 =>
      have hl := HL.out
      clear HL
      simp only [spec_l1Cur_trace.l0] at hl
      by_cases hn : 0 < n
      · rw [if_pos hn] at hl
        have hnb : decide (0 < n) = true := decide_eq_true hn
        clear hn
        obtain ⟨⟨l2, y1, y2⟩, hx, hl2⟩ := Option.bind_eq_some_iff.mp hl
        clear hl
        dsimp only at hl2
        have HL := Aside0.mk hl2
        clear hl2
        unfold trNext at hx
        obtain ⟨⟨a, a1, a2⟩, ha, hx_⟩ := Option.bind_eq_some_iff.mp hx
        clear hx
        dsimp only at ha hx_
        have HA := Aside0.mk ha
        have hx := hx_
        clear ha hx_
        obtain ⟨⟨b, b1, b2⟩, hb, hx_⟩ := Option.bind_eq_some_iff.mp hx
        clear hx
        dsimp only at hb hx_
        have HB := Aside0.mk hb
        have hx := hx_
        clear hb hx_
        obtain ⟨⟨d, d1, d2⟩, hd, hx_⟩ := Option.bind_eq_some_iff.mp hx
        clear hx
        dsimp only at hd hx_
        have HD := Aside0.mk hd
        have hx := hx_
        clear hd hx_
        obtain ⟨⟨e, e1, e2⟩, he, hx_⟩ := Option.bind_eq_some_iff.mp hx
        clear hx
        dsimp only at he hx_
        have HE_ := Aside0.mk he
        have hx := hx_
        clear he hx_
        obtain ⟨⟨f, f1, f2⟩, hf, hx_⟩ := Option.bind_eq_some_iff.mp hx
        clear hx
        dsimp only at hf hx_
        have HF := Aside0.mk hf
        have hx := hx_
        clear hf hx_
        have HX := Aside0.mk hx
        clear hx
        go_upto_region 6 with (first
          | (go_at_call 26; refine (spec_l1Cur_pick.calls g s0 u1 u2 3 a a1 a2 w0 _ HE.out.hI HE.out.hB HA.out).mono ?_; rintro e9 w4 ⟨rfl, hi, hb, hk⟩; replace HE := Aside0.mk (HE.out.read hi hb hk); clear hi hb hk HA)
          | (go_at_call 27; refine (spec_l1Cur_of.calls g s0 a1 a2 (some ⟨w4.heap.size, 0, none⟩) 3 webs b b1 b2 w0 _ (HE.out.alloc _).hI (HE.out.alloc _).hB (three_texts _ _ _ _) (by decide) (fun ad e _ => by cases e; exact fun e' => absurd (IsS41.lt HE.out.hI) (by have : w4.heap.size = g := e'; omega)) HB.out).mono ?_; rintro e9 w5 ⟨rfl, hi, hb, hk⟩; replace HE := Aside0.mk ((HE.out.alloc _).read hi hb hk); clear hi hb hk HB)
          | (go_at_call 27; refine (spec_l1Cur_of.calls g s0 b1 b2 (some ⟨w5.heap.size, 0, none⟩) 2 gets d d1 d2 w0 _ (HE.out.alloc _).hI (HE.out.alloc _).hB (two_texts _ _ _) (by decide) (fun ad e _ => by cases e; exact fun e' => absurd (IsS41.lt HE.out.hI) (by have : w5.heap.size = g := e'; omega)) HD.out).mono ?_; rintro e9 w6 ⟨rfl, hi, hb, hk⟩; replace HE := Aside0.mk ((HE.out.alloc _).read hi hb hk); clear hi hb hk HD)
          | (go_at_call 26; refine (spec_l1Cur_pick.calls g s0 d1 d2 10 e e1 e2 w0 _ HE.out.hI HE.out.hB HE_.out).mono ?_; rintro e9 w7 ⟨rfl, hi, hb, hk⟩; replace HE := Aside0.mk (HE.out.read hi hb hk); clear hi hb hk HE_)
          | (go_at_call 11; refine (spec_l1Cur_one.calls g s0 e1 e2 6 f f1 f2 w0 _ HE.out.hI HE.out.hB HF.out).mono ?_; rintro e9 w8 ⟨rfl, hi, hb, hk⟩; replace HE := Aside0.mk (HE.out.read hi hb hk); clear hi hb hk HF))
        have HX0 := Aside0.mk (blk_new w8 (.cells #[.int .i64 (wrap64 (1 + a)), .int .i64 0, .string b, .string d, .int .i64 e, .int .i64 0, .bool f] 34))
        have HGX := Aside0.mk (show w0.heap.size ≤ w8.heap.size from HE.out.hB.size)
        replace HE := Aside0.mk ((HE.out.elder w8.heap.size (Nat.le_refl _)).alloc (.cells #[.int .i64 (wrap64 (1 + a)), .int .i64 0, .string b, .string d, .int .i64 e, .int .i64 0, .bool f] 34))
        generalize w8.alloc (.cells #[.int .i64 (wrap64 (1 + a)), .int .i64 0, .string b, .string d, .int .i64 e, .int .i64 0, .bool f] 34) = w9 at HE HX0 ⊢
        generalize w8.heap.size = gX at HE HX0 HGX ⊢
        have ht1 : w9.cell? ⟨gT, 1, none⟩ = some (.slice A l.length c) := (blk_cell HE.out.hT 1).trans rfl
        by_cases hlt : 0 < (l.length : Int)
        · have hltb : decide (0 < (l.length : Int)) = true := decide_eq_true hlt
          have hx := HX.out
          rw [if_pos hlt] at hx
          clear HX
          obtain ⟨⟨p, p1, p2⟩, hp, hx_⟩ := Option.bind_eq_some_iff.mp hx
          clear hx
          dsimp only at hp hx_
          have HP := Aside0.mk hp
          clear hp
          by_cases hin : 0 ≤ p ∧ p < (l.length : Int)
          case neg => rw [if_neg hin] at hx_; cases hx_
          rw [if_pos hin] at hx_
          have HIN := Aside0.mk hin
          have hp0 : (0 ≤ p) = True := eq_true hin.1
          have hp1 : (p < (l.length : Int)) = True := eq_true hin.2
          clear hin
          obtain ⟨⟨s, z1, z2⟩, hs, hx2⟩ := Option.bind_eq_some_iff.mp hx_
          clear hx_
          dsimp only at hs hx2
          have HS := Aside0.mk hs
          have HX := Aside0.mk hx2
          clear hs hx2
          obtain ⟨G, rfl⟩ := HE.out.form (by omega)
          go_upto_region 8 with (fail)
          clear ht1
          replace HX0 : Aside0 (w9.drew.heap[gX]? = some (.cells #[.int .i64 (wrap64 (1 + a)), .int .i64 0, .string b, .string d, .int .i64 e, .int .i64 0, .bool f] 34 (0, 0))) := ⟨HX0.out⟩
          replace HE := Aside0.mk HE.out.drew
          refine start_ (n := 9) (S := fun w' => w'.cell? ⟨gT, 1, none⟩ = some (.slice (some ⟨G, 0, none⟩) l.length c) ∧ w'.cell? ⟨G, p.toNat * 7, none⟩ = some (.int .i64 (rdT l p).f0) ∧ w'.cell? ⟨G, p.toNat * 7 + 1, none⟩ = some (.int .i64 (rdT l p).f1) ∧ w'.cell? ⟨G, p.toNat * 7 + 2, none⟩ = some (.string (rdT l p).f2) ∧ w'.cell? ⟨G, p.toNat * 7 + 3, none⟩ = some (.string (rdT l p).f3) ∧ w'.cell? ⟨G, p.toNat * 7 + 4, none⟩ = some (.int .i64 (rdT l p).f4) ∧ w'.cell? ⟨G, p.toNat * 7 + 5, none⟩ = some (.int .i64 (rdT l p).f5) ∧ w'.cell? ⟨G, p.toNat * 7 + 6, none⟩ = some (.bool (rdT l p).f6)) (ds := [8]) #[false,false,false,false,false,false,false,false,false] (by kernel_rfl) rfl rfl (HE.out.held p HIN.out.1 HIN.out.2) (fun hHeld => ?_)
          generalize w9.drew = w10 at hHeld HE HX0 ⊢
          refine pure_ (i := 0) (N := (some 38)) (v := ?_) (a' := ?_) #[true,false,false,false,false,false,false,false,false] rfl rfl (by kernel_rfl) (fun _ _ _ h => h) (Or.inl ⟨by rfl, ?_⟩) ?_ ?_
          rotate_left
          · intro w'
            go_simp
            with_reducible rfl
          rotate_left
          · simp only [Act.put, List.setIfInBounds_toArray, List.set_cons_zero, List.set_cons_succ, i64_w, i32_w]
            rfl
          refine take_ (i := 1) (N := (some 39)) (v := ?_) (a' := ?_) #[true,true,false,false,false,false,false,false,false] rfl rfl (by kernel_rfl) (fun _ _ _ h => h) (Or.inl ⟨by rfl, ?_⟩) hHeld ?_ ?_
          rotate_left
          · rintro w' ⟨s0, s1, s2, s3, s4, s5, s6, s7⟩
            go_simp
            with_reducible rfl
          rotate_left
          · simp only [Act.put, List.setIfInBounds_toArray, List.set_cons_zero, List.set_cons_succ, i64_w, i32_w]
            rfl
          refine pure_ (i := 2) (N := (some 40)) (v := ?_) (a' := ?_) #[true,true,true,false,false,false,false,false,false] rfl rfl (by kernel_rfl) (fun _ _ _ h => h) (Or.inl ⟨by rfl, ?_⟩) ?_ ?_
          rotate_left
          · intro w'
            go_simp
            with_reducible rfl
          rotate_left
          · simp only [Act.put, List.setIfInBounds_toArray, List.set_cons_zero, List.set_cons_succ, i64_w, i32_w]
            rfl
          refine pure_ (i := 3) (N := (some 41)) (v := ?_) (a' := ?_) #[true,true,true,true,false,false,false,false,false] rfl rfl (by kernel_rfl) (fun _ _ _ h => h) (Or.inl ⟨by rfl, ?_⟩) ?_ ?_
          rotate_left
          · intro w'
            go_simp
            with_reducible rfl
          rotate_left
          · simp only [Act.put, List.setIfInBounds_toArray, List.set_cons_zero, List.set_cons_succ, i64_w, i32_w]
            rfl
          refine join_ (σ := Nat) 1 #[true,true,true,true,true,true,true,true,false] (fun s_ => [(42, .int .i64 p), (43, .pointer (some ⟨G, p.toNat * 7, none⟩)), (44, .agg #[.int .i64 (rdT l p).f0, .int .i64 (rdT l p).f1, .string (rdT l p).f2, .string (rdT l p).f3, .int .i64 (rdT l p).f4, .int .i64 (rdT l p).f5, .bool (rdT l p).f6]), (9, .pointer (some ⟨s_, 0, none⟩))]) (fun s_ w' => TrEnv w0 g gT gR (some ⟨G, 0, none⟩) c id l s0 p1 p2 (fun k => (True ∧ k ≠ gX) ∧ k ≠ s_) w' ∧ w'.heap[gX]? = some (.cells #[.int .i64 (wrap64 (1 + a)), .int .i64 0, .string b, .string d, .int .i64 e, .int .i64 0, .bool f] 34 (0, 0)) ∧ w'.heap[s_]? = some (.cells #[.int .i64 0, .int .i64 0, .string (⟨#[]⟩ : ByteArray), .string (⟨#[]⟩ : ByteArray), .int .i64 0, .int .i64 0, .bool false] 34 (0, 0)) ∧ w0.heap.size ≤ s_ ∧ s_ ≠ gX) ?_ ?_
          rotate_left
          · intro hCont
            refine two_ (i := 4) (j := 7) (Ni := some 42) (Nj := some 9) #[true,true,true,true,true,false,false,false,false] #[true,true,true,true,false,false,false,true,false] rfl rfl rfl rfl (by kernel_rfl) (by decide) (by decide) (fun K hK => ?_) (fun K hK => ?_)
            · refine goes_ Try.func26 (by kernel_rfl) rfl #[.pointer (some ⟨g, 0, none⟩), .int .i64 (l.length : Int)] (by rfl) rfl rfl (by (try simp only [List.map_toArray, List.map_cons, List.map_nil]); first | done | rfl) ?_
              with_reducible refine (spec_l1Cur_pick.calls g s0 f1 f2 (l.length : Int) p p1 p2 w0 _ HE.out.hI HE.out.hB HP.out).mono ?_
              rintro e9 w11 ⟨rfl, hi, hb, hk⟩
              refine ⟨_, rfl, ?_⟩
              replace HX0 := Aside0.mk (HE.out.keepB HX0.out hk)
              replace HE := Aside0.mk (HE.out.read hi hb hk)
              clear hi hb hk
              refine hK.out _ _ (HE.out.held p HIN.out.1 HIN.out.2) (fun hHeld2 => ?_)
              clear hK K hHeld
              have hHeld := hHeld2
              clear hHeld2
              refine norm_ (a' := ?_) ?_ ?_
              rotate_left
              · show Act.put _ (some 42) _ = _
                simp only [Act.put, List.setIfInBounds_toArray, List.set_cons_zero, List.set_cons_succ, i64_w, i32_w]
                rfl
              refine pure_ (i := 5) (N := some 43) (v := ?_) (a' := ?_) #[true,true,true,true,true,true,false,false,false] rfl rfl (by kernel_rfl) (fun _ _ _ h => h) (Or.inl ⟨by rfl, ?_⟩) ?_ ?_
              rotate_left
              · intro w'
                go_simp
                with_reducible rfl
              rotate_left
              · simp only [Act.put, List.setIfInBounds_toArray, List.set_cons_zero, List.set_cons_succ, i64_w, i32_w]
                rfl
              refine take_ (i := 6) (N := some 44) (v := ?_) (a' := ?_) #[true,true,true,true,true,true,true,false,false] rfl rfl (by kernel_rfl) (fun _ _ _ h => h) (Or.inl ⟨by rfl, ?_⟩) hHeld ?_ ?_
              rotate_left
              · rintro w' ⟨s0, s1, s2, s3, s4, s5, s6, s7⟩
                go_simp
                with_reducible rfl
              rotate_left
              · simp only [Act.put, List.setIfInBounds_toArray, List.set_cons_zero, List.set_cons_succ, i64_w, i32_w]
                rfl
              refine one_ (i := 7) (N := some 9) #[true,true,true,true,true,true,true,true,false] rfl rfl (by kernel_rfl) (by decide) (fun K hK => ?_)
              refine value_ (w1 := ?_) (v := ?_) (by rfl) rfl ?_ ?_
              rotate_left 2
              · go_simp
                first | done | rfl | (constructor <;> rfl)
              have HNE := Aside0.mk (show w11.heap.size ≠ gX by have := blk_lt HX0.out; omega)
              have HGP := Aside0.mk (show w0.heap.size ≤ w11.heap.size from HE.out.hB.size)
              have HBP := Aside0.mk (blk_new w11 (.cells #[.int .i64 0, .int .i64 0, .string (⟨#[]⟩ : ByteArray), .string (⟨#[]⟩ : ByteArray), .int .i64 0, .int .i64 0, .bool false] 34))
              replace HX0 := Aside0.mk (blk_alloc HX0.out (.cells #[.int .i64 0, .int .i64 0, .string (⟨#[]⟩ : ByteArray), .string (⟨#[]⟩ : ByteArray), .int .i64 0, .int .i64 0, .bool false] 34))
              replace HE := Aside0.mk ((HE.out.elder w11.heap.size (Nat.le_refl _)).alloc (.cells #[.int .i64 0, .int .i64 0, .string (⟨#[]⟩ : ByteArray), .string (⟨#[]⟩ : ByteArray), .int .i64 0, .int .i64 0, .bool false] 34))
              generalize w11.alloc (.cells #[.int .i64 0, .int .i64 0, .string (⟨#[]⟩ : ByteArray), .string (⟨#[]⟩ : ByteArray), .int .i64 0, .int .i64 0, .bool false] 34) = w12 at HE HX0 HBP ⊢
              generalize w11.heap.size = gP at HE HNE HGP HBP ⊢
              refine hK.out _ _ (HE.out.held p HIN.out.1 HIN.out.2) (fun hHeld2 => ?_)
              clear hK K hHeld
              have hHeld := hHeld2
              clear hHeld2
              refine norm_ (a' := ?_) ?_ ?_
              rotate_left
              · show Act.put _ (some 9) _ = _
                simp only [Act.put, List.setIfInBounds_toArray, List.set_cons_zero, List.set_cons_succ, i64_w, i32_w]
                rfl
              exact norm_ (by simp only [putAll, Act.put, List.setIfInBounds_toArray, List.set_cons_zero, List.set_cons_succ]) (hCont gP _ ⟨HE.out, HX0.out, HBP.out, HGP.out, HNE.out⟩)
            · refine value_ (w1 := ?_) (v := ?_) (by rfl) rfl ?_ ?_
              rotate_left 2
              · go_simp
                first | done | rfl | (constructor <;> rfl)
              have HNE := Aside0.mk (show w10.heap.size ≠ gX by have := blk_lt HX0.out; omega)
              have HGP := Aside0.mk (show w0.heap.size ≤ w10.heap.size from HE.out.hB.size)
              have HBP := Aside0.mk (blk_new w10 (.cells #[.int .i64 0, .int .i64 0, .string (⟨#[]⟩ : ByteArray), .string (⟨#[]⟩ : ByteArray), .int .i64 0, .int .i64 0, .bool false] 34))
              replace HX0 := Aside0.mk (blk_alloc HX0.out (.cells #[.int .i64 0, .int .i64 0, .string (⟨#[]⟩ : ByteArray), .string (⟨#[]⟩ : ByteArray), .int .i64 0, .int .i64 0, .bool false] 34))
              replace HE := Aside0.mk ((HE.out.elder w10.heap.size (Nat.le_refl _)).alloc (.cells #[.int .i64 0, .int .i64 0, .string (⟨#[]⟩ : ByteArray), .string (⟨#[]⟩ : ByteArray), .int .i64 0, .int .i64 0, .bool false] 34))
              generalize w10.alloc (.cells #[.int .i64 0, .int .i64 0, .string (⟨#[]⟩ : ByteArray), .string (⟨#[]⟩ : ByteArray), .int .i64 0, .int .i64 0, .bool false] 34) = w11 at HE HX0 HBP ⊢
              generalize w10.heap.size = gP at HE HNE HGP HBP ⊢
              refine hK.out _ _ (HE.out.held p HIN.out.1 HIN.out.2) (fun hHeld2 => ?_)
              clear hK K hHeld
              have hHeld := hHeld2
              clear hHeld2
              refine norm_ (a' := ?_) ?_ ?_
              rotate_left
              · show Act.put _ (some 9) _ = _
                simp only [Act.put, List.setIfInBounds_toArray, List.set_cons_zero, List.set_cons_succ, i64_w, i32_w]
                rfl
              refine one_ (i := 4) (N := some 42) #[true,true,true,true,true,false,false,true,false] rfl rfl (by kernel_rfl) (by decide) (fun K hK => ?_)
              refine goes_ Try.func26 (by kernel_rfl) rfl #[.pointer (some ⟨g, 0, none⟩), .int .i64 (l.length : Int)] (by rfl) rfl rfl (by (try simp only [List.map_toArray, List.map_cons, List.map_nil]); first | done | rfl) ?_
              with_reducible refine (spec_l1Cur_pick.calls g s0 f1 f2 (l.length : Int) p p1 p2 w0 _ HE.out.hI HE.out.hB HP.out).mono ?_
              rintro e9 w12 ⟨rfl, hi, hb, hk⟩
              refine ⟨_, rfl, ?_⟩
              replace HX0 := Aside0.mk (HE.out.keepB HX0.out hk)
              replace HBP := Aside0.mk (HE.out.keepB HBP.out hk)
              replace HE := Aside0.mk (HE.out.read hi hb hk)
              clear hi hb hk
              refine hK.out _ _ (HE.out.held p HIN.out.1 HIN.out.2) (fun hHeld2 => ?_)
              clear hK K hHeld
              have hHeld := hHeld2
              clear hHeld2
              refine norm_ (a' := ?_) ?_ ?_
              rotate_left
              · show Act.put _ (some 42) _ = _
                simp only [Act.put, List.setIfInBounds_toArray, List.set_cons_zero, List.set_cons_succ, i64_w, i32_w]
                rfl
              refine pure_ (i := 5) (N := some 43) (v := ?_) (a' := ?_) #[true,true,true,true,true,true,false,true,false] rfl rfl (by kernel_rfl) (fun _ _ _ h => h) (Or.inl ⟨by rfl, ?_⟩) ?_ ?_
              rotate_left
              · intro w'
                go_simp
                with_reducible rfl
              rotate_left
              · simp only [Act.put, List.setIfInBounds_toArray, List.set_cons_zero, List.set_cons_succ, i64_w, i32_w]
                rfl
              refine take_ (i := 6) (N := some 44) (v := ?_) (a' := ?_) #[true,true,true,true,true,true,true,true,false] rfl rfl (by kernel_rfl) (fun _ _ _ h => h) (Or.inl ⟨by rfl, ?_⟩) hHeld ?_ ?_
              rotate_left
              · rintro w' ⟨s0, s1, s2, s3, s4, s5, s6, s7⟩
                go_simp
                with_reducible rfl
              rotate_left
              · simp only [Act.put, List.setIfInBounds_toArray, List.set_cons_zero, List.set_cons_succ, i64_w, i32_w]
                rfl
              exact norm_ (by simp only [putAll, Act.put, List.setIfInBounds_toArray, List.set_cons_zero, List.set_cons_succ]) (hCont gP _ ⟨HE.out, HX0.out, HBP.out, HGP.out, HNE.out⟩)
          rintro gP w11 ⟨hE, hX, hP_, hG_, hN_⟩
          replace HE := Aside0.mk hE
          replace HX0 := Aside0.mk hX
          have HBP := Aside0.mk hP_
          have HGP := Aside0.mk hG_
          have HNE := Aside0.mk hN_
          clear hE hX hP_ hG_ hN_ hHeld
          have hHeld := HE.out.held p HIN.out.1 HIN.out.2
          refine norm_ (a' := ?_) ?_ ?_
          rotate_left
          · simp only [putAll, Act.put, List.setIfInBounds_toArray, List.set_cons_zero, List.set_cons_succ]
            rfl
          have hz0 : w11.cell? ⟨gP, 0, none⟩ = some (.int .i64 0) := (blk_cell HBP.out 0).trans rfl
          have hz1 : w11.cell? ⟨gP, 1, none⟩ = some (.int .i64 0) := (blk_cell HBP.out 1).trans rfl
          have hz2 : w11.cell? ⟨gP, 2, none⟩ = some (.string (⟨#[]⟩ : ByteArray)) := (blk_cell HBP.out 2).trans rfl
          have hz3 : w11.cell? ⟨gP, 3, none⟩ = some (.string (⟨#[]⟩ : ByteArray)) := (blk_cell HBP.out 3).trans rfl
          have hz4 : w11.cell? ⟨gP, 4, none⟩ = some (.int .i64 0) := (blk_cell HBP.out 4).trans rfl
          have hz5 : w11.cell? ⟨gP, 5, none⟩ = some (.int .i64 0) := (blk_cell HBP.out 5).trans rfl
          have hz6 : w11.cell? ⟨gP, 6, none⟩ = some (.bool false) := (blk_cell HBP.out 6).trans rfl
          have hf0 := blk_frozen HBP.out 0
          have hf1 := blk_frozen HBP.out 1
          have hf2 := blk_frozen HBP.out 2
          have hf3 := blk_frozen HBP.out 3
          have hf4 := blk_frozen HBP.out 4
          have hf5 := blk_frozen HBP.out 5
          have hf6 := blk_frozen HBP.out 6
          refine last_ (i := 8) (N := none) #[true,true,true,true,true,true,true,true,true] rfl rfl (by kernel_rfl) (by decide) (fun K hK => ?_)
          refine skip_ (w1 := ?_) (by rfl) rfl ?_ ?_
          rotate_left
          · go_simp
            rfl
          refine hK.out _ _ ?_
          clear hK K
          refine done_ (by kernel_rfl) ?_
          go_upto_region 9 with (fail)
          clear hHeld hp0 hp1 HP hz0 hf0 hz1 hf1 hz2 hf2 hz3 hf3 hz4 hf4 hz5 hf5 hz6 hf6
          replace HE := Aside0.mk (HE.out.far HBP.out HGP.out (fun _ h => h.2) 0 (.int .i64 (rdT l p).f0))
          replace HX0 := Aside0.mk (blk_far HX0.out (p := ⟨gP, 0, none⟩) HNE.out.symm (.int .i64 (rdT l p).f0))
          replace HBP : Aside0 ((w11.setCell ⟨gP, 0, none⟩ (.int .i64 (rdT l p).f0)).heap[gP]? = some (.cells #[.int .i64 (rdT l p).f0, .int .i64 0, .string (⟨#[]⟩ : ByteArray), .string (⟨#[]⟩ : ByteArray), .int .i64 0, .int .i64 0, .bool false] 34 (0, 0))) := ⟨blk_put HBP.out 0 _ rfl⟩
          generalize w11.setCell ⟨gP, 0, none⟩ (.int .i64 (rdT l p).f0) = w13 at HE HX0 HBP ⊢
          clear w11
          generalize w13 = w11 at HE HX0 HBP ⊢
          replace HE := Aside0.mk (HE.out.far HBP.out HGP.out (fun _ h => h.2) 1 (.int .i64 (rdT l p).f1))
          replace HX0 := Aside0.mk (blk_far HX0.out (p := ⟨gP, 1, none⟩) HNE.out.symm (.int .i64 (rdT l p).f1))
          replace HBP : Aside0 ((w11.setCell ⟨gP, 1, none⟩ (.int .i64 (rdT l p).f1)).heap[gP]? = some (.cells #[.int .i64 (rdT l p).f0, .int .i64 (rdT l p).f1, .string (⟨#[]⟩ : ByteArray), .string (⟨#[]⟩ : ByteArray), .int .i64 0, .int .i64 0, .bool false] 34 (0, 0))) := ⟨blk_put HBP.out 1 _ rfl⟩
          generalize w11.setCell ⟨gP, 1, none⟩ (.int .i64 (rdT l p).f1) = w13 at HE HX0 HBP ⊢
          clear w11
          generalize w13 = w11 at HE HX0 HBP ⊢
          replace HE := Aside0.mk (HE.out.far HBP.out HGP.out (fun _ h => h.2) 2 (.string (rdT l p).f2))
          replace HX0 := Aside0.mk (blk_far HX0.out (p := ⟨gP, 2, none⟩) HNE.out.symm (.string (rdT l p).f2))
          replace HBP : Aside0 ((w11.setCell ⟨gP, 2, none⟩ (.string (rdT l p).f2)).heap[gP]? = some (.cells #[.int .i64 (rdT l p).f0, .int .i64 (rdT l p).f1, .string (rdT l p).f2, .string (⟨#[]⟩ : ByteArray), .int .i64 0, .int .i64 0, .bool false] 34 (0, 0))) := ⟨blk_put HBP.out 2 _ rfl⟩
          generalize w11.setCell ⟨gP, 2, none⟩ (.string (rdT l p).f2) = w13 at HE HX0 HBP ⊢
          clear w11
          generalize w13 = w11 at HE HX0 HBP ⊢
          replace HE := Aside0.mk (HE.out.far HBP.out HGP.out (fun _ h => h.2) 3 (.string (rdT l p).f3))
          replace HX0 := Aside0.mk (blk_far HX0.out (p := ⟨gP, 3, none⟩) HNE.out.symm (.string (rdT l p).f3))
          replace HBP : Aside0 ((w11.setCell ⟨gP, 3, none⟩ (.string (rdT l p).f3)).heap[gP]? = some (.cells #[.int .i64 (rdT l p).f0, .int .i64 (rdT l p).f1, .string (rdT l p).f2, .string (rdT l p).f3, .int .i64 0, .int .i64 0, .bool false] 34 (0, 0))) := ⟨blk_put HBP.out 3 _ rfl⟩
          generalize w11.setCell ⟨gP, 3, none⟩ (.string (rdT l p).f3) = w13 at HE HX0 HBP ⊢
          clear w11
          generalize w13 = w11 at HE HX0 HBP ⊢
          replace HE := Aside0.mk (HE.out.far HBP.out HGP.out (fun _ h => h.2) 4 (.int .i64 (rdT l p).f4))
          replace HX0 := Aside0.mk (blk_far HX0.out (p := ⟨gP, 4, none⟩) HNE.out.symm (.int .i64 (rdT l p).f4))
          replace HBP : Aside0 ((w11.setCell ⟨gP, 4, none⟩ (.int .i64 (rdT l p).f4)).heap[gP]? = some (.cells #[.int .i64 (rdT l p).f0, .int .i64 (rdT l p).f1, .string (rdT l p).f2, .string (rdT l p).f3, .int .i64 (rdT l p).f4, .int .i64 0, .bool false] 34 (0, 0))) := ⟨blk_put HBP.out 4 _ rfl⟩
          generalize w11.setCell ⟨gP, 4, none⟩ (.int .i64 (rdT l p).f4) = w13 at HE HX0 HBP ⊢
          clear w11
          generalize w13 = w11 at HE HX0 HBP ⊢
          replace HE := Aside0.mk (HE.out.far HBP.out HGP.out (fun _ h => h.2) 5 (.int .i64 (rdT l p).f5))
          replace HX0 := Aside0.mk (blk_far HX0.out (p := ⟨gP, 5, none⟩) HNE.out.symm (.int .i64 (rdT l p).f5))
          replace HBP : Aside0 ((w11.setCell ⟨gP, 5, none⟩ (.int .i64 (rdT l p).f5)).heap[gP]? = some (.cells #[.int .i64 (rdT l p).f0, .int .i64 (rdT l p).f1, .string (rdT l p).f2, .string (rdT l p).f3, .int .i64 (rdT l p).f4, .int .i64 (rdT l p).f5, .bool false] 34 (0, 0))) := ⟨blk_put HBP.out 5 _ rfl⟩
          generalize w11.setCell ⟨gP, 5, none⟩ (.int .i64 (rdT l p).f5) = w13 at HE HX0 HBP ⊢
          clear w11
          generalize w13 = w11 at HE HX0 HBP ⊢
          replace HE := Aside0.mk (HE.out.far HBP.out HGP.out (fun _ h => h.2) 6 (.bool (rdT l p).f6))
          replace HX0 := Aside0.mk (blk_far HX0.out (p := ⟨gP, 6, none⟩) HNE.out.symm (.bool (rdT l p).f6))
          replace HBP : Aside0 ((w11.setCell ⟨gP, 6, none⟩ (.bool (rdT l p).f6)).heap[gP]? = some (.cells #[.int .i64 (rdT l p).f0, .int .i64 (rdT l p).f1, .string (rdT l p).f2, .string (rdT l p).f3, .int .i64 (rdT l p).f4, .int .i64 (rdT l p).f5, .bool (rdT l p).f6] 34 (0, 0))) := ⟨blk_put HBP.out 6 _ rfl⟩
          generalize w11.setCell ⟨gP, 6, none⟩ (.bool (rdT l p).f6) = w13 at HE HX0 HBP ⊢
          clear w11
          generalize w13 = w11 at HE HX0 HBP ⊢
          have HMX : Aside0 (l.length ≤ 1000) := ⟨by obtain ⟨r, _, hh⟩ := Option.bind_eq_some_iff.mp HX.out; by_cases hc : l.length ≤ 1000; exact hc; rw [if_neg hc] at hh; cases hh⟩
          have HMM := Aside0.mk (show 0 ≤ wrap64 ((l.length : Int) - 1) ∧ wrap64 ((l.length : Int) - 1) < (l.length : Int) by have := HIN.out; have e : wrap64 ((l.length : Int) - 1) = (l.length : Int) - 1 := (by have : (l.length : Int) ≤ 1000 := (by have := HMX.out; omega); unfold wrap64; omega); omega)
          have m0 : (0 ≤ wrap64 ((l.length : Int) - 1)) = True := eq_true HMM.out.1
          have m1 : (wrap64 ((l.length : Int) - 1) < (l.length : Int)) = True := eq_true HMM.out.2
          replace HX0 : Aside0 (w11.drew.heap[gX]? = some (.cells #[.int .i64 (wrap64 (1 + a)), .int .i64 0, .string b, .string d, .int .i64 e, .int .i64 0, .bool f] 34 (0, 0))) := ⟨HX0.out⟩
          replace HBP : Aside0 (w11.drew.heap[gP]? = some (.cells #[.int .i64 (rdT l p).f0, .int .i64 (rdT l p).f1, .string (rdT l p).f2, .string (rdT l p).f3, .int .i64 (rdT l p).f4, .int .i64 (rdT l p).f5, .bool (rdT l p).f6] 34 (0, 0))) := ⟨HBP.out⟩
          replace HE := Aside0.mk HE.out.drew
          refine start_ (n := 12) (S := fun w' => w'.cell? ⟨gX, 0, none⟩ = some (.int .i64 (wrap64 (1 + a))) ∧ w'.cell? ⟨gT, 1, none⟩ = some (.slice (some ⟨G, 0, none⟩) l.length c) ∧ w'.cell? ⟨G, (wrap64 ((l.length : Int) - 1)).toNat * 7, none⟩ = some (.int .i64 (rdT l (wrap64 ((l.length : Int) - 1))).f0)) (ds := [11]) #[false,false,false,false,false,false,false,false,false,false,false,false] (by kernel_rfl) rfl rfl (⟨(blk_cell HX0.out 0).trans rfl, (blk_cell HE.out.hT 1).trans rfl, (HE.out.held _ HMM.out.1 HMM.out.2).2.1⟩) (fun hHeld => ?_)
          generalize w11.drew = w12 at hHeld HE HX0 HBP ⊢
          refine pure_ (i := 0) (N := (some 45)) (v := ?_) (a' := ?_) #[true,false,false,false,false,false,false,false,false,false,false,false] rfl rfl (by kernel_rfl) (fun _ _ _ h => h) (Or.inl ⟨by rfl, ?_⟩) ?_ ?_
          rotate_left
          · intro w'
            go_simp
            with_reducible rfl
          rotate_left
          · simp only [Act.put, List.setIfInBounds_toArray, List.set_cons_zero, List.set_cons_succ, i64_w, i32_w]
            rfl
          refine take_ (i := 1) (N := (some 46)) (v := ?_) (a' := ?_) #[true,true,false,false,false,false,false,false,false,false,false,false] rfl rfl (by kernel_rfl) (fun _ _ _ h => h) (Or.inl ⟨by rfl, ?_⟩) hHeld ?_ ?_
          rotate_left
          · rintro w' ⟨s0, s1, s2⟩
            go_simp
            with_reducible rfl
          rotate_left
          · simp only [Act.put, List.setIfInBounds_toArray, List.set_cons_zero, List.set_cons_succ, i64_w, i32_w]
            rfl
          refine pure_ (i := 2) (N := (some 47)) (v := ?_) (a' := ?_) #[true,true,true,false,false,false,false,false,false,false,false,false] rfl rfl (by kernel_rfl) (fun _ _ _ h => h) (Or.inl ⟨by rfl, ?_⟩) ?_ ?_
          rotate_left
          · intro w'
            go_simp
            with_reducible rfl
          rotate_left
          · simp only [Act.put, List.setIfInBounds_toArray, List.set_cons_zero, List.set_cons_succ, i64_w, i32_w]
            rfl
          refine take_ (i := 3) (N := (some 48)) (v := ?_) (a' := ?_) #[true,true,true,true,false,false,false,false,false,false,false,false] rfl rfl (by kernel_rfl) (fun _ _ _ h => h) (Or.inl ⟨by rfl, ?_⟩) hHeld ?_ ?_
          rotate_left
          · rintro w' ⟨s0, s1, s2⟩
            go_simp
            with_reducible rfl
          rotate_left
          · simp only [Act.put, List.setIfInBounds_toArray, List.set_cons_zero, List.set_cons_succ, i64_w, i32_w]
            rfl
          refine pure_ (i := 4) (N := (some 49)) (v := ?_) (a' := ?_) #[true,true,true,true,true,false,false,false,false,false,false,false] rfl rfl (by kernel_rfl) (fun _ _ _ h => h) (Or.inl ⟨by rfl, ?_⟩) ?_ ?_
          rotate_left
          · intro w'
            go_simp
            with_reducible rfl
          rotate_left
          · simp only [Act.put, List.setIfInBounds_toArray, List.set_cons_zero, List.set_cons_succ, i64_w, i32_w]
            rfl
          refine pure_ (i := 5) (N := (some 50)) (v := ?_) (a' := ?_) #[true,true,true,true,true,true,false,false,false,false,false,false] rfl rfl (by kernel_rfl) (fun _ _ _ h => h) (Or.inl ⟨by rfl, ?_⟩) ?_ ?_
          rotate_left
          · intro w'
            go_simp
            with_reducible rfl
          rotate_left
          · simp only [Act.put, List.setIfInBounds_toArray, List.set_cons_zero, List.set_cons_succ, i64_w, i32_w]
            rfl
          refine pure_ (i := 6) (N := (some 51)) (v := ?_) (a' := ?_) #[true,true,true,true,true,true,true,false,false,false,false,false] rfl rfl (by kernel_rfl) (fun _ _ _ h => h) (Or.inl ⟨by rfl, ?_⟩) ?_ ?_
          rotate_left
          · intro w'
            go_simp
            with_reducible rfl
          rotate_left
          · simp only [Act.put, List.setIfInBounds_toArray, List.set_cons_zero, List.set_cons_succ, i64_w, i32_w]
            rfl
          refine pure_ (i := 7) (N := (some 52)) (v := ?_) (a' := ?_) #[true,true,true,true,true,true,true,true,false,false,false,false] rfl rfl (by kernel_rfl) (fun _ _ _ h => h) (Or.inl ⟨by rfl, ?_⟩) ?_ ?_
          rotate_left
          · intro w'
            go_simp
            with_reducible rfl
          rotate_left
          · simp only [Act.put, List.setIfInBounds_toArray, List.set_cons_zero, List.set_cons_succ, i64_w, i32_w]
            rfl
          refine take_ (i := 8) (N := (some 53)) (v := ?_) (a' := ?_) #[true,true,true,true,true,true,true,true,true,false,false,false] rfl rfl (by kernel_rfl) (fun _ _ _ h => h) (Or.inl ⟨by rfl, ?_⟩) hHeld ?_ ?_
          rotate_left
          · rintro w' ⟨s0, s1, s2⟩
            go_simp
            with_reducible rfl
          rotate_left
          · simp only [Act.put, List.setIfInBounds_toArray, List.set_cons_zero, List.set_cons_succ, i64_w, i32_w]
            rfl
          refine pure_ (i := 9) (N := (some 54)) (v := ?_) (a' := ?_) #[true,true,true,true,true,true,true,true,true,true,false,false] rfl rfl (by kernel_rfl) (fun _ _ _ h => h) (Or.inl ⟨by rfl, ?_⟩) ?_ ?_
          rotate_left
          · intro w'
            go_simp
            with_reducible rfl
          rotate_left
          · simp only [Act.put, List.setIfInBounds_toArray, List.set_cons_zero, List.set_cons_succ, i64_w, i32_w]
            rfl
          refine pure_ (i := 10) (N := (some 55)) (v := ?_) (a' := ?_) #[true,true,true,true,true,true,true,true,true,true,true,false] rfl rfl (by kernel_rfl) (fun _ _ _ h => h) (Or.inl ⟨by rfl, ?_⟩) ?_ ?_
          rotate_left
          · intro w'
            go_simp
            with_reducible rfl
          rotate_left
          · simp only [Act.put, List.setIfInBounds_toArray, List.set_cons_zero, List.set_cons_succ, i64_w, i32_w]
            rfl
          refine last_ (i := 11) (N := none) #[true,true,true,true,true,true,true,true,true,true,true,true] rfl rfl (by kernel_rfl) (by decide) (fun K hK => ?_)
          have hx0 : w12.cell? ⟨gX, 0, none⟩ = some (.int .i64 (wrap64 (1 + a))) := (blk_cell HX0.out 0).trans rfl
          have hxf := blk_frozen HX0.out 0
          refine skip_ (w1 := ?_) (by rfl) rfl ?_ ?_
          rotate_left
          · go_simp
            rfl
          refine hK.out _ _ ?_
          clear hK K
          refine done_ (by kernel_rfl) ?_
          go_upto_region 10 with (fail)
          clear hHeld hx0 hxf m0 m1
          replace HE := Aside0.mk (HE.out.far HX0.out HGX.out (fun _ h => h.1.2) 0 (.int .i64 (wrap64 (wrap64 (1 + a) + (rdT l (wrap64 ((l.length : Int) - 1))).f0))))
          replace HBP := Aside0.mk (blk_far HBP.out (p := ⟨gX, 0, none⟩) HNE.out (.int .i64 (wrap64 (wrap64 (1 + a) + (rdT l (wrap64 ((l.length : Int) - 1))).f0))))
          replace HX0 : Aside0 ((w12.setCell ⟨gX, 0, none⟩ (.int .i64 (wrap64 (wrap64 (1 + a) + (rdT l (wrap64 ((l.length : Int) - 1))).f0)))).heap[gX]? = some (.cells #[.int .i64 (wrap64 (wrap64 (1 + a) + (rdT l (wrap64 ((l.length : Int) - 1))).f0)), .int .i64 0, .string b, .string d, .int .i64 e, .int .i64 0, .bool f] 34 (0, 0))) := ⟨blk_put HX0.out 0 _ rfl⟩
          generalize w12.setCell ⟨gX, 0, none⟩ (.int .i64 (wrap64 (wrap64 (1 + a) + (rdT l (wrap64 ((l.length : Int) - 1))).f0))) = w13 at HE HX0 HBP ⊢
          have hp0 : w13.cell? ⟨gP, 0, none⟩ = some (.int .i64 (rdT l p).f0) := (blk_cell HBP.out 0).trans rfl
          have hx1 : w13.cell? ⟨gX, 1, none⟩ = some (.int .i64 0) := (blk_cell HX0.out 1).trans rfl
          have hxf := blk_frozen HX0.out 1
          go_upto_region 11 with (fail)
          clear hp0 hx1 hxf
          replace HE := Aside0.mk (HE.out.far HX0.out HGX.out (fun _ h => h.1.2) 1 (.int .i64 ((rdT l p).f0)))
          replace HBP := Aside0.mk (blk_far HBP.out (p := ⟨gX, 1, none⟩) HNE.out (.int .i64 ((rdT l p).f0)))
          replace HX0 : Aside0 ((w13.setCell ⟨gX, 1, none⟩ (.int .i64 ((rdT l p).f0))).heap[gX]? = some (.cells #[.int .i64 (wrap64 (wrap64 (1 + a) + (rdT l (wrap64 ((l.length : Int) - 1))).f0)), .int .i64 (rdT l p).f0, .string b, .string d, .int .i64 e, .int .i64 0, .bool f] 34 (0, 0))) := ⟨blk_put HX0.out 1 _ rfl⟩
          generalize w13.setCell ⟨gX, 1, none⟩ (.int .i64 ((rdT l p).f0)) = w14 at HE HX0 HBP ⊢
          replace HX0 : Aside0 (w14.drew.heap[gX]? = some (.cells #[.int .i64 (wrap64 (wrap64 (1 + a) + (rdT l (wrap64 ((l.length : Int) - 1))).f0)), .int .i64 (rdT l p).f0, .string b, .string d, .int .i64 e, .int .i64 0, .bool f] 34 (0, 0))) := ⟨HX0.out⟩
          replace HBP : Aside0 (w14.drew.heap[gP]? = some (.cells #[.int .i64 (rdT l p).f0, .int .i64 (rdT l p).f1, .string (rdT l p).f2, .string (rdT l p).f3, .int .i64 (rdT l p).f4, .int .i64 (rdT l p).f5, .bool (rdT l p).f6] 34 (0, 0))) := ⟨HBP.out⟩
          replace HE := Aside0.mk HE.out.drew
          refine start_ (n := 7) (S := fun w' => w'.cell? ⟨gP, 4, none⟩ = some (.int .i64 (rdT l p).f4)) (ds := [6]) #[false,false,false,false,false,false,false] (by kernel_rfl) rfl rfl ((blk_cell HBP.out 4).trans rfl) (fun hHeld => ?_)
          generalize w14.drew = w15 at hHeld HE HX0 HBP ⊢
          refine pure_ (i := 0) (N := (some 59)) (v := ?_) (a' := ?_) #[true,false,false,false,false,false,false] rfl rfl (by kernel_rfl) (fun _ _ _ h => h) (Or.inl ⟨by rfl, ?_⟩) ?_ ?_
          rotate_left
          · intro w'
            go_simp
            with_reducible rfl
          rotate_left
          · simp only [Act.put, List.setIfInBounds_toArray, List.set_cons_zero, List.set_cons_succ, i64_w, i32_w]
            rfl
          refine take_ (i := 1) (N := (some 60)) (v := ?_) (a' := ?_) #[true,true,false,false,false,false,false] rfl rfl (by kernel_rfl) (fun _ _ _ h => h) (Or.inl ⟨by rfl, ?_⟩) hHeld ?_ ?_
          rotate_left
          · intro w' s0
            go_simp
            with_reducible rfl
          rotate_left
          · simp only [Act.put, List.setIfInBounds_toArray, List.set_cons_zero, List.set_cons_succ, i64_w, i32_w]
            rfl
          refine pure_ (i := 2) (N := (some 61)) (v := ?_) (a' := ?_) #[true,true,true,false,false,false,false] rfl rfl (by kernel_rfl) (fun _ _ _ h => h) (Or.inl ⟨by rfl, ?_⟩) ?_ ?_
          rotate_left
          · intro w'
            go_simp
            with_reducible rfl
          rotate_left
          · simp only [Act.put, List.setIfInBounds_toArray, List.set_cons_zero, List.set_cons_succ, i64_w, i32_w]
            rfl
          refine one_ (i := 3) (N := (some 62)) #[true,true,true,true,false,false,false] rfl rfl (by kernel_rfl) (by decide) (fun K hK => ?_)
          refine goes_ Try.func26 (by kernel_rfl) rfl #[.pointer (some ⟨g, 0, none⟩), .int .i64 12] (by rfl) rfl rfl (by (try simp only [List.map_toArray, List.map_cons, List.map_nil]); first | done | rfl) ?_
          with_reducible refine (spec_l1Cur_pick.calls g s0 p1 p2 12 s z1 z2 w0 _ HE.out.hI HE.out.hB HS.out).mono ?_
          rintro e9 w16 ⟨rfl, hi, hb, hk⟩
          refine ⟨_, rfl, ?_⟩
          replace HX0 := Aside0.mk (HE.out.keepB HX0.out hk)
          replace HBP := Aside0.mk (HE.out.keepB HBP.out hk)
          replace HE := Aside0.mk (HE.out.read hi hb hk)
          clear hi hb hk
          refine hK.out _ _ ((blk_cell HBP.out 4).trans rfl) (fun hHeld2 => ?_)
          clear hK K hHeld
          have hHeld := hHeld2
          clear hHeld2
          refine norm_ (a' := ?_) ?_ ?_
          rotate_left
          · show Act.put _ (some 62) _ = _
            simp only [Act.put, List.setIfInBounds_toArray, List.set_cons_zero, List.set_cons_succ, i64_w, i32_w]
            rfl
          refine pure_ (i := 4) (N := (some 63)) (v := ?_) (a' := ?_) #[true,true,true,true,true,false,false] rfl rfl (by kernel_rfl) (fun _ _ _ h => h) (Or.inl ⟨by rfl, ?_⟩) ?_ ?_
          rotate_left
          · intro w'
            go_simp
            with_reducible rfl
          rotate_left
          · simp only [Act.put, List.setIfInBounds_toArray, List.set_cons_zero, List.set_cons_succ, i64_w, i32_w]
            rfl
          refine pure_ (i := 5) (N := (some 64)) (v := ?_) (a' := ?_) #[true,true,true,true,true,true,false] rfl rfl (by kernel_rfl) (fun _ _ _ h => h) (Or.inl ⟨by rfl, ?_⟩) ?_ ?_
          rotate_left
          · intro w'
            go_simp
            with_reducible rfl
          rotate_left
          · simp only [Act.put, List.setIfInBounds_toArray, List.set_cons_zero, List.set_cons_succ, i64_w, i32_w]
            rfl
          refine last_ (i := 6) (N := none) #[true,true,true,true,true,true,true] rfl rfl (by kernel_rfl) (by decide) (fun K hK => ?_)
          have hx4 : w16.cell? ⟨gX, 4, none⟩ = some (.int .i64 e) := (blk_cell HX0.out 4).trans rfl
          have hxf := blk_frozen HX0.out 4
          refine skip_ (w1 := ?_) (by rfl) rfl ?_ ?_
          rotate_left
          · go_simp
            rfl
          refine hK.out _ _ ?_
          clear hK K
          refine done_ (by kernel_rfl) ?_
          go_upto_region 12 with (fail)
          clear hHeld hx4 hxf
          replace HE := Aside0.mk (HE.out.far HX0.out HGX.out (fun _ h => h.1.2) 4 (.int .i64 (wrap64 ((rdT l p).f4 + s))))
          replace HBP := Aside0.mk (blk_far HBP.out (p := ⟨gX, 4, none⟩) HNE.out (.int .i64 (wrap64 ((rdT l p).f4 + s))))
          replace HX0 : Aside0 ((w16.setCell ⟨gX, 4, none⟩ (.int .i64 (wrap64 ((rdT l p).f4 + s)))).heap[gX]? = some (.cells #[.int .i64 (wrap64 (wrap64 (1 + a) + (rdT l (wrap64 ((l.length : Int) - 1))).f0)), .int .i64 (rdT l p).f0, .string b, .string d, .int .i64 (wrap64 ((rdT l p).f4 + s)), .int .i64 0, .bool f] 34 (0, 0))) := ⟨blk_put HX0.out 4 _ rfl⟩
          generalize w16.setCell ⟨gX, 4, none⟩ (.int .i64 (wrap64 ((rdT l p).f4 + s))) = w17 at HE HX0 HBP ⊢
          clear HBP
          generalize w17 = w9 at HE HX0 ⊢
          obtain ⟨⟨r, r1, r2⟩, hr, hx_⟩ := Option.bind_eq_some_iff.mp HX.out
          clear HX
          dsimp only at hr hx_
          have HR := Aside0.mk hr
          clear hr
          by_cases hmx : l.length ≤ 1000
          case neg => rw [if_neg hmx] at hx_; cases hx_
          rw [if_pos hmx] at hx_
          simp only [Option.some.injEq, Prod.mk.injEq] at hx_
          obtain ⟨rfl, rfl, rfl⟩ := hx_
          have HM := Aside0.mk hmx
          clear hmx
          replace HX0 : Aside0 (w9.drew.heap[gX]? = some (.cells #[.int .i64 (wrap64 (wrap64 (1 + a) + (rdT l (wrap64 ((l.length : Int) - 1))).f0)), .int .i64 (rdT l p).f0, .string b, .string d, .int .i64 (wrap64 ((rdT l p).f4 + s)), .int .i64 0, .bool f] 34 (0, 0))) := ⟨HX0.out⟩
          replace HE := Aside0.mk HE.out.drew
          refine start_ (n := 7) (S := fun w' => w'.cell? ⟨gX, 4, none⟩ = some (.int .i64 (wrap64 ((rdT l p).f4 + s)))) (ds := [6]) #[false,false,false,false,false,false,false] (by kernel_rfl) rfl rfl ((blk_cell HX0.out 4).trans rfl) (fun hHeld => ?_)
          generalize w9.drew = w10 at hHeld HE HX0 ⊢
          refine pure_ (i := 0) (N := (some 65)) (v := ?_) (a' := ?_) #[true,false,false,false,false,false,false] rfl rfl (by kernel_rfl) (fun _ _ _ h => h) (Or.inl ⟨by rfl, ?_⟩) ?_ ?_
          rotate_left
          · intro w'
            go_simp
            with_reducible rfl
          rotate_left
          · simp only [Act.put, List.setIfInBounds_toArray, List.set_cons_zero, List.set_cons_succ, i64_w, i32_w]
            rfl
          refine take_ (i := 1) (N := (some 66)) (v := ?_) (a' := ?_) #[true,true,false,false,false,false,false] rfl rfl (by kernel_rfl) (fun _ _ _ h => h) (Or.inl ⟨by rfl, ?_⟩) hHeld ?_ ?_
          rotate_left
          · intro w' s0
            go_simp
            with_reducible rfl
          rotate_left
          · simp only [Act.put, List.setIfInBounds_toArray, List.set_cons_zero, List.set_cons_succ, i64_w, i32_w]
            rfl
          refine pure_ (i := 2) (N := (some 67)) (v := ?_) (a' := ?_) #[true,true,true,false,false,false,false] rfl rfl (by kernel_rfl) (fun _ _ _ h => h) (Or.inl ⟨by rfl, ?_⟩) ?_ ?_
          rotate_left
          · intro w'
            go_simp
            with_reducible rfl
          rotate_left
          · simp only [Act.put, List.setIfInBounds_toArray, List.set_cons_zero, List.set_cons_succ, i64_w, i32_w]
            rfl
          refine one_ (i := 3) (N := (some 68)) #[true,true,true,true,false,false,false] rfl rfl (by kernel_rfl) (by decide) (fun K hK => ?_)
          refine goes_ Try.func26 (by kernel_rfl) rfl #[.pointer (some ⟨g, 0, none⟩), .int .i64 30] (by rfl) rfl rfl (by (try simp only [List.map_toArray, List.map_cons, List.map_nil]); first | done | rfl) ?_
          with_reducible refine (spec_l1Cur_pick.calls g s0 z1 z2 30 r r1 r2 w0 _ HE.out.hI HE.out.hB HR.out).mono ?_
          rintro e9 w11 ⟨rfl, hi, hb, hk⟩
          refine ⟨_, rfl, ?_⟩
          replace HX0 := Aside0.mk (HE.out.keepB HX0.out hk)
          replace HE := Aside0.mk (HE.out.read hi hb hk)
          clear hi hb hk
          refine hK.out _ _ ((blk_cell HX0.out 4).trans rfl) (fun hHeld2 => ?_)
          clear hK K hHeld
          have hHeld := hHeld2
          clear hHeld2
          refine norm_ (a' := ?_) ?_ ?_
          rotate_left
          · show Act.put _ (some 68) _ = _
            simp only [Act.put, List.setIfInBounds_toArray, List.set_cons_zero, List.set_cons_succ, i64_w, i32_w]
            rfl
          refine pure_ (i := 4) (N := (some 69)) (v := ?_) (a' := ?_) #[true,true,true,true,true,false,false] rfl rfl (by kernel_rfl) (fun _ _ _ h => h) (Or.inl ⟨by rfl, ?_⟩) ?_ ?_
          rotate_left
          · intro w'
            go_simp
            with_reducible rfl
          rotate_left
          · simp only [Act.put, List.setIfInBounds_toArray, List.set_cons_zero, List.set_cons_succ, i64_w, i32_w]
            rfl
          refine pure_ (i := 5) (N := (some 70)) (v := ?_) (a' := ?_) #[true,true,true,true,true,true,false] rfl rfl (by kernel_rfl) (fun _ _ _ h => h) (Or.inl ⟨by rfl, ?_⟩) ?_ ?_
          rotate_left
          · intro w'
            go_simp
            with_reducible rfl
          rotate_left
          · simp only [Act.put, List.setIfInBounds_toArray, List.set_cons_zero, List.set_cons_succ, i64_w, i32_w]
            rfl
          refine last_ (i := 6) (N := none) #[true,true,true,true,true,true,true] rfl rfl (by kernel_rfl) (by decide) (fun K hK => ?_)
          have hx5 : w11.cell? ⟨gX, 5, none⟩ = some (.int .i64 0) := (blk_cell HX0.out 5).trans rfl
          have hxf := blk_frozen HX0.out 5
          refine skip_ (w1 := ?_) (by rfl) rfl ?_ ?_
          rotate_left
          · go_simp
            rfl
          refine hK.out _ _ ?_
          clear hK K
          refine done_ (by kernel_rfl) ?_
          go_upto_region 13 with (fail)
          clear hHeld hx5 hxf
          replace HE := Aside0.mk (HE.out.far HX0.out HGX.out (fun _ h => h.1.2) 5 (.int .i64 (wrap64 (wrap64 ((rdT l p).f4 + s) + r)))).weak
          replace HX0 : Aside0 ((w11.setCell ⟨gX, 5, none⟩ (.int .i64 (wrap64 (wrap64 ((rdT l p).f4 + s) + r)))).heap[gX]? = some (.cells #[.int .i64 (wrap64 (wrap64 (1 + a) + (rdT l (wrap64 ((l.length : Int) - 1))).f0)), .int .i64 (rdT l p).f0, .string b, .string d, .int .i64 (wrap64 ((rdT l p).f4 + s)), .int .i64 (wrap64 (wrap64 ((rdT l p).f4 + s) + r)), .bool f] 34 (0, 0))) := ⟨blk_put HX0.out 5 _ rfl⟩
          generalize w11.setCell ⟨gX, 5, none⟩ (.int .i64 (wrap64 (wrap64 ((rdT l p).f4 + s) + r))) = w12 at HE HX0 ⊢
          have hcz1 : w12.cell? ⟨gT, 1, none⟩ = some (.slice (some ⟨G, 0, none⟩) l.length c) := (blk_cell HE.out.hT 1).trans rfl
          have hy0 : w12.cell? ⟨gX, 0, none⟩ = some (.int .i64 (wrap64 (wrap64 (1 + a) + (rdT l (wrap64 ((l.length : Int) - 1))).f0))) := (blk_cell HX0.out 0).trans rfl
          have hy1 : w12.cell? ⟨gX, 1, none⟩ = some (.int .i64 (rdT l p).f0) := (blk_cell HX0.out 1).trans rfl
          have hy2 : w12.cell? ⟨gX, 2, none⟩ = some (.string b) := (blk_cell HX0.out 2).trans rfl
          have hy3 : w12.cell? ⟨gX, 3, none⟩ = some (.string d) := (blk_cell HX0.out 3).trans rfl
          have hy4 : w12.cell? ⟨gX, 4, none⟩ = some (.int .i64 (wrap64 ((rdT l p).f4 + s))) := (blk_cell HX0.out 4).trans rfl
          have hy5 : w12.cell? ⟨gX, 5, none⟩ = some (.int .i64 (wrap64 (wrap64 ((rdT l p).f4 + s) + r))) := (blk_cell HX0.out 5).trans rfl
          have hy6 : w12.cell? ⟨gX, 6, none⟩ = some (.bool f) := (blk_cell HX0.out 6).trans rfl
          go_wp2_with (first
            | ((with_reducible refine gate_builtin (b := .append) (xs := #[.tmp 72, .tmp 74]) rfl ?_); at_builtin
               refine Kd.R_append kT (w0 := w0) w0.heap.size rfl (.tmp 72) (.tmp 74) 23 34 (.agg #[(.int .i64 0), (.int .i64 0), (.string ⟨#[]⟩), (.string ⟨#[]⟩), (.int .i64 0), (.int .i64 0), (.bool false)]) 72 rfl Try.underlying23 info34 rfl (by decide) (by omega) (.slice (some ⟨G, 0, none⟩) l.length c) l (trKid l p a b d f s r) [.int .i64 (wrap64 (wrap64 (1 + a) + (rdT l (wrap64 ((l.length : Int) - 1))).f0)), .int .i64 (rdT l p).f0, .string b, .string d, .int .i64 (wrap64 ((rdT l p).f4 + s)), .int .i64 (wrap64 (wrap64 ((rdT l p).f4 + s) + r)), .bool f] (fun _ => True) (fun _ => False) rfl (by first | (go_simp; done) | (go_simp; rfl)) ?aP (fun _ hk => hk.elim) ?aF ?aO ?aB ?aS ?aL ?_
               (case aP => exact k34_mkM _ _ _ (trKid l p a b d f s r)); (case aB => exact HE.out.hB); (case aF => exact fun _ _ => trivial); (case aO => exact HE.out.hR); (case aS => exact HE.out.hB.size); (case aL => have := HM.out; omega)
               intro v1 w4 ho hb hg hat
               obtain ⟨A2, c2, rfl, hE2⟩ := HE.out.pushed ho hb hg
               have HE2 := Aside0.mk hE2
               have hT4 := blk_grown HE.out.hT hg (Kd.R_ne HE.out.hR HE.out.hT (by decide))
               have hw0 : w4.cell? ⟨gT, 1, none⟩ = some (.slice (some ⟨G, 0, none⟩) l.length c) := (blk_cell hT4 1).trans rfl
               have hwf := blk_frozen hT4 1
               clear hE2 ho hb hg hat hT4 HE HX0 hcz1 hy0 hy1 hy2 hy3 hy4 hy5 hy6))
          clear hw0 hwf
          go_roundg k1
          case measure => have := HK.out; omega
          case rel => exact ⟨wrap64 (n - 1), A2, c2, l ++ [trKid l p a b d f s r], r1, r2, rfl, HL, ⟨by have := HK.out; omega⟩, ⟨by have h := HE2.out; simp only [List.length_append, List.length_singleton] at h ⊢; exact h⟩⟩
        · have hltb : decide (0 < (l.length : Int)) = false := decide_eq_false hlt
          have hltn : decide (0 < l.length) = false := decide_eq_false (by omega)
          have hlti : (0 < (l.length : Int)) = False := eq_false hlt
          have hltm : (0 < l.length) = False := eq_false (by omega)
          have hx := HX.out
          rw [if_neg hlt] at hx
          clear HX
          have HX := Aside0.mk hx
          clear hx hlt
          go_upto_region 12 with (fail)
          clear ht1 hltn hlti hltm
          obtain ⟨⟨r, r1, r2⟩, hr, hx_⟩ := Option.bind_eq_some_iff.mp HX.out
          clear HX
          dsimp only at hr hx_
          have HR := Aside0.mk hr
          clear hr
          by_cases hmx : l.length ≤ 1000
          case neg => rw [if_neg hmx] at hx_; cases hx_
          rw [if_pos hmx] at hx_
          simp only [Option.some.injEq, Prod.mk.injEq] at hx_
          obtain ⟨rfl, rfl, rfl⟩ := hx_
          have HM := Aside0.mk hmx
          clear hmx
          replace HX0 : Aside0 (w9.drew.heap[gX]? = some (.cells #[.int .i64 (wrap64 (1 + a)), .int .i64 0, .string b, .string d, .int .i64 e, .int .i64 0, .bool f] 34 (0, 0))) := ⟨HX0.out⟩
          replace HE := Aside0.mk HE.out.drew
          refine start_ (n := 7) (S := fun w' => w'.cell? ⟨gX, 4, none⟩ = some (.int .i64 e)) (ds := [6]) #[false,false,false,false,false,false,false] (by kernel_rfl) rfl rfl ((blk_cell HX0.out 4).trans rfl) (fun hHeld => ?_)
          generalize w9.drew = w10 at hHeld HE HX0 ⊢
          refine pure_ (i := 0) (N := (some 65)) (v := ?_) (a' := ?_) #[true,false,false,false,false,false,false] rfl rfl (by kernel_rfl) (fun _ _ _ h => h) (Or.inl ⟨by rfl, ?_⟩) ?_ ?_
          rotate_left
          · intro w'
            go_simp
            with_reducible rfl
          rotate_left
          · simp only [Act.put, List.setIfInBounds_toArray, List.set_cons_zero, List.set_cons_succ, i64_w, i32_w]
            rfl
          refine take_ (i := 1) (N := (some 66)) (v := ?_) (a' := ?_) #[true,true,false,false,false,false,false] rfl rfl (by kernel_rfl) (fun _ _ _ h => h) (Or.inl ⟨by rfl, ?_⟩) hHeld ?_ ?_
          rotate_left
          · intro w' s0
            go_simp
            with_reducible rfl
          rotate_left
          · simp only [Act.put, List.setIfInBounds_toArray, List.set_cons_zero, List.set_cons_succ, i64_w, i32_w]
            rfl
          refine pure_ (i := 2) (N := (some 67)) (v := ?_) (a' := ?_) #[true,true,true,false,false,false,false] rfl rfl (by kernel_rfl) (fun _ _ _ h => h) (Or.inl ⟨by rfl, ?_⟩) ?_ ?_
          rotate_left
          · intro w'
            go_simp
            with_reducible rfl
          rotate_left
          · simp only [Act.put, List.setIfInBounds_toArray, List.set_cons_zero, List.set_cons_succ, i64_w, i32_w]
            rfl
          refine one_ (i := 3) (N := (some 68)) #[true,true,true,true,false,false,false] rfl rfl (by kernel_rfl) (by decide) (fun K hK => ?_)
          refine goes_ Try.func26 (by kernel_rfl) rfl #[.pointer (some ⟨g, 0, none⟩), .int .i64 30] (by rfl) rfl rfl (by (try simp only [List.map_toArray, List.map_cons, List.map_nil]); first | done | rfl) ?_
          with_reducible refine (spec_l1Cur_pick.calls g s0 f1 f2 30 r r1 r2 w0 _ HE.out.hI HE.out.hB HR.out).mono ?_
          rintro e9 w11 ⟨rfl, hi, hb, hk⟩
          refine ⟨_, rfl, ?_⟩
          replace HX0 := Aside0.mk (HE.out.keepB HX0.out hk)
          replace HE := Aside0.mk (HE.out.read hi hb hk)
          clear hi hb hk
          refine hK.out _ _ ((blk_cell HX0.out 4).trans rfl) (fun hHeld2 => ?_)
          clear hK K hHeld
          have hHeld := hHeld2
          clear hHeld2
          refine norm_ (a' := ?_) ?_ ?_
          rotate_left
          · show Act.put _ (some 68) _ = _
            simp only [Act.put, List.setIfInBounds_toArray, List.set_cons_zero, List.set_cons_succ, i64_w, i32_w]
            rfl
          refine pure_ (i := 4) (N := (some 69)) (v := ?_) (a' := ?_) #[true,true,true,true,true,false,false] rfl rfl (by kernel_rfl) (fun _ _ _ h => h) (Or.inl ⟨by rfl, ?_⟩) ?_ ?_
          rotate_left
          · intro w'
            go_simp
            with_reducible rfl
          rotate_left
          · simp only [Act.put, List.setIfInBounds_toArray, List.set_cons_zero, List.set_cons_succ, i64_w, i32_w]
            rfl
          refine pure_ (i := 5) (N := (some 70)) (v := ?_) (a' := ?_) #[true,true,true,true,true,true,false] rfl rfl (by kernel_rfl) (fun _ _ _ h => h) (Or.inl ⟨by rfl, ?_⟩) ?_ ?_
          rotate_left
          · intro w'
            go_simp
            with_reducible rfl
          rotate_left
          · simp only [Act.put, List.setIfInBounds_toArray, List.set_cons_zero, List.set_cons_succ, i64_w, i32_w]
            rfl
          refine last_ (i := 6) (N := none) #[true,true,true,true,true,true,true] rfl rfl (by kernel_rfl) (by decide) (fun K hK => ?_)
          have hx5 : w11.cell? ⟨gX, 5, none⟩ = some (.int .i64 0) := (blk_cell HX0.out 5).trans rfl
          have hxf := blk_frozen HX0.out 5
          refine skip_ (w1 := ?_) (by rfl) rfl ?_ ?_
          rotate_left
          · go_simp
            rfl
          refine hK.out _ _ ?_
          clear hK K
          refine done_ (by kernel_rfl) ?_
          go_upto_region 13 with (fail)
          clear hHeld hx5 hxf
          replace HE := Aside0.mk (HE.out.far HX0.out HGX.out (fun _ h => h.2) 5 (.int .i64 (wrap64 (e + r)))).weak
          replace HX0 : Aside0 ((w11.setCell ⟨gX, 5, none⟩ (.int .i64 (wrap64 (e + r)))).heap[gX]? = some (.cells #[.int .i64 (wrap64 (1 + a)), .int .i64 0, .string b, .string d, .int .i64 e, .int .i64 (wrap64 (e + r)), .bool f] 34 (0, 0))) := ⟨blk_put HX0.out 5 _ rfl⟩
          generalize w11.setCell ⟨gX, 5, none⟩ (.int .i64 (wrap64 (e + r))) = w12 at HE HX0 ⊢
          have hcz1 : w12.cell? ⟨gT, 1, none⟩ = some (.slice A l.length c) := (blk_cell HE.out.hT 1).trans rfl
          have hy0 : w12.cell? ⟨gX, 0, none⟩ = some (.int .i64 (wrap64 (1 + a))) := (blk_cell HX0.out 0).trans rfl
          have hy1 : w12.cell? ⟨gX, 1, none⟩ = some (.int .i64 0) := (blk_cell HX0.out 1).trans rfl
          have hy2 : w12.cell? ⟨gX, 2, none⟩ = some (.string b) := (blk_cell HX0.out 2).trans rfl
          have hy3 : w12.cell? ⟨gX, 3, none⟩ = some (.string d) := (blk_cell HX0.out 3).trans rfl
          have hy4 : w12.cell? ⟨gX, 4, none⟩ = some (.int .i64 e) := (blk_cell HX0.out 4).trans rfl
          have hy5 : w12.cell? ⟨gX, 5, none⟩ = some (.int .i64 (wrap64 (e + r))) := (blk_cell HX0.out 5).trans rfl
          have hy6 : w12.cell? ⟨gX, 6, none⟩ = some (.bool f) := (blk_cell HX0.out 6).trans rfl
          go_wp2_with (first
            | ((with_reducible refine gate_builtin (b := .append) (xs := #[.tmp 72, .tmp 74]) rfl ?_); at_builtin
               refine Kd.R_append kT (w0 := w0) w0.heap.size rfl (.tmp 72) (.tmp 74) 23 34 (.agg #[(.int .i64 0), (.int .i64 0), (.string ⟨#[]⟩), (.string ⟨#[]⟩), (.int .i64 0), (.int .i64 0), (.bool false)]) 72 rfl Try.underlying23 info34 rfl (by decide) (by omega) (.slice A l.length c) l (trFirst a b d e f r) [.int .i64 (wrap64 (1 + a)), .int .i64 0, .string b, .string d, .int .i64 e, .int .i64 (wrap64 (e + r)), .bool f] (fun _ => True) (fun _ => False) rfl (by first | (go_simp; done) | (go_simp; rfl)) ?aP (fun _ hk => hk.elim) ?aF ?aO ?aB ?aS ?aL ?_
               (case aP => exact k34_mkM _ _ _ (trFirst a b d e f r)); (case aB => exact HE.out.hB); (case aF => exact fun _ _ => trivial); (case aO => exact HE.out.hR); (case aS => exact HE.out.hB.size); (case aL => have := HM.out; omega)
               intro v1 w4 ho hb hg hat
               obtain ⟨A2, c2, rfl, hE2⟩ := HE.out.pushed ho hb hg
               have HE2 := Aside0.mk hE2
               have hT4 := blk_grown HE.out.hT hg (Kd.R_ne HE.out.hR HE.out.hT (by decide))
               have hw0 : w4.cell? ⟨gT, 1, none⟩ = some (.slice A l.length c) := (blk_cell hT4 1).trans rfl
               have hwf := blk_frozen hT4 1
               clear hE2 ho hb hg hat hT4 HE HX0 hcz1 hy0 hy1 hy2 hy3 hy4 hy5 hy6))
          clear hw0 hwf
          go_roundg k1
          case measure => have := HK.out; omega
          case rel => exact ⟨wrap64 (n - 1), A2, c2, l ++ [trFirst a b d e f r], r1, r2, rfl, HL, ⟨by have := HK.out; omega⟩, ⟨by have h := HE2.out; simp only [List.length_append, List.length_singleton] at h ⊢; exact h⟩⟩
      · rw [if_neg hn] at hl
        have hnb : decide (0 < n) = false := decide_eq_false hn
        simp only [Option.some.injEq, Prod.mk.injEq] at hl
        obtain ⟨rfl, rfl, rfl⟩ := hl
        clear hn
        have ht0 : wr.cell? ⟨gT, 0, none⟩ = some (.int .i64 id) := (blk_cell HE.out.hT 0).trans rfl
        have ht1 : wr.cell? ⟨gT, 1, none⟩ = some (.slice A l.length c) := (blk_cell HE.out.hT 1).trans rfl
        have hrz0 : wr.cell? ⟨gR, 0, none⟩ = some (.int .i64 0) := (blk_cell HE.out.hO 0).trans rfl
        have hrz1 : wr.cell? ⟨gR, 1, none⟩ = some (.slice none 0 0) := (blk_cell HE.out.hO 1).trans rfl
        have hgz0 := blk_frozen HE.out.hO 0
        have hgz1 := blk_frozen HE.out.hO 1
        have hn1 := HE.out.ne
        have hn2 := hn1.symm
        go_wp2
        refine bodyPost_ret (results_cell_row rfl _ _ gR 25 #[.int .i64 id, .slice A l.length c] (0, 0) _ rfl (blk_put (cs := #[.int .i64 id, .slice none 0 0]) (blk_put (cs := #[.int .i64 0, .slice none 0 0]) HE.out.hO 0 _ rfl) 1 _ rfl) Try.underlying25 rfl (by kernel_rfl)) rfl ?_
        have hne := IsS41.ne_blk HE.out.hI HE.out.hO (by decide)
        exact ⟨_, rfl, Kd.R_mono (Kd.R_far (p := ⟨gR, 1, none⟩) (Kd.R_far (p := ⟨gR, 0, none⟩) (Kd.R_types HE.out.hR HE.out.hO (by decide)) (fun _ hk => hk.2) _) (fun _ hk => hk.2) _) (fun _ _ => trivial), IsS41.far (p := ⟨gR, 1, none⟩) (IsS41.far (p := ⟨gR, 0, none⟩) HE.out.hI hne _) hne _, below_set (below_set HE.out.hB HE.out.gR_ge) HE.out.gR_ge⟩
end Go.Proofs.Ytalhphclogbpnaa.PFnCritical
