/- symMerge: the main case. Written by a program of this repo (stgen.py). -/
import Derived.Test.YtalhphclogbpnaaStWalk
import Derived.Deep.DeepCutAuto
import Derived.Deep.CutBlock
namespace Go.Proofs.Ytalhphclogbpnaa.St
open Go.Shelf Go.RowKit Go.Lib Go.Sort Go.Proofs
set_option linter.unusedVariables false
set_option linter.unusedSimpArgs false
variable {P : Program} {α : Type} [Inhabited α]
set_option maxHeartbeats 4000000 in
set_option maxRecDepth 1000000 in
theorem symC (L : Lay P) (k : Nat) (aE : ∀ w, (isAgg 34).run P w = .ok true w) (zE : ∀ w, (Go.sizeOf 34).run P w = .ok k w) (enc : α → List Value) (cf : α → α → Int) (g : Nat) (cb : Array Value) (blk off cap : Nat) (d0 : Array α) (w0 : World) (eg : ∀ args w, (callFunc g args).run P w = .ok (.enter g args) w) (hcmp : CmpLays P g cb enc k cf blk off d0.size w0) (hS : SWO (ltOf cf)) (R : RowK enc k w0 blk off d0) (hsz : d0.size < 1000000) (a m b : Nat) (d : Array α) (w : World) (hds : d.size = d0.size) (S : SWK enc k w0 blk off d w) (h1 : a < m) (h2 : m < b) (h3 : b ≤ d.size) (s1 : SortedIn (ltOf cf) a m d) (s2 : SortedIn (ltOf cf) m b d) (hm1 : ¬ m = a + 1) (hn1 : ¬ b = m + 1) (N : Nat) (hN : b - a ≤ N + 1) (ih : ∀ (a m b : Nat) (d : Array α) (w : World), b - a ≤ N → d.size = d0.size → SWK enc k w0 blk off d w → a < m → m < b → b ≤ d.size → SortedIn (ltOf cf) a m d → SortedIn (ltOf cf) m b d → Calls P 40 #[.slice (some ⟨blk, off, none⟩) d0.size cap, .int .i64 a, .int .i64 m, .int .i64 b, .func (.func g) #[] cb] w fun e w' => e = .returned (.tuple #[]) ∧ ∃ f, PermIn a b d f ∧ SortedIn (ltOf cf) a b f ∧ SWK enc k w0 blk off f w') :
    Calls P 40 #[.slice (some ⟨blk, off, none⟩) d0.size cap, .int .i64 a, .int .i64 m, .int .i64 b, .func (.func g) #[] cb] w fun e w' => e = .returned (.tuple #[]) ∧ ∃ f, PermIn a b d f ∧ SortedIn (ltOf cf) a b f ∧ SWK enc k w0 blk off f w' := by
  have mixed := L.mixed
  have t0 := L.t0; have a0 := L.a0; have z0 := L.z0; have v0 := L.v0
  have t3 := L.t3; have a3 := L.a3; have z3 := L.z3; have v3 := L.v3
  have t4 := L.t4; have a4 := L.a4; have z4 := L.z4; have v4 := L.v4
  have tsl := L.tsl; have asl := L.asl; have zsl := L.zsl; have vsl := L.vsl
  have tfn := L.tfn; have afn := L.afn; have zfn := L.zfn; have vfn := L.vfn
  have tui := L.tui; have aui := L.aui; have zui := L.zui; have vui := L.vui
  have FG := L.symMergeCmpFunc
  have HC : Aside _ := hcmp
  have S0 : Aside (SWK enc k w0 blk off d w) := S
  have HS : Hid (SWO (ltOf cf)) := hS
  have H1 : Hid (SortedIn (ltOf cf) a m d) := s1
  have H2 : Hid (SortedIn (ltOf cf) m b d) := s2
  clear S hcmp s1 s2
  have wa : IntKind.i64.wrap ((m : Int) - (a : Int)) = (m : Int) - (a : Int) := by rw [IntKind.wrap_i64]; omega
  have wb : IntKind.i64.wrap ((b : Int) - (m : Int)) = (b : Int) - (m : Int) := by rw [IntKind.wrap_i64]; omega
  have IH : Aside _ := ih
  clear ih
  have eR : ∀ args w, (callFunc 42 args).run P w = .ok (.enter 42 args) w := enters_of L.rotateCmpFunc (by kernel_rfl) rfl
  have eM : ∀ args w, (callFunc 40 args).run P w = .ok (.enter 40 args) w := enters_of L.symMergeCmpFunc (by kernel_rfl) rfl
  have call := fun (x y z : Nat) (dk : Array α) (W : World) (hz : d0.size = dk.size) (SK : SWK enc k w0 blk off dk W) (q1 : x < y) (q2 : y < z) (q3 : z ≤ dk.size) => rotate L k aE zE enc g cb blk off cap x y z d0 dk w0 W R hz SK q1 q2 q3 (by omega)
  have CALL : Aside _ := call
  clear call
  have c1 : ((m : Int) - (a : Int) == 1) = false := beq_eq_false_iff_ne.mpr (by omega)
  have c2 : ¬ (m : Int) - (a : Int) = 1 := by omega
  have c3 : ((b : Int) - (m : Int) == 1) = false := beq_eq_false_iff_ne.mpr (by omega)
  have c4 : ¬ (b : Int) - (m : Int) = 1 := by omega
  clear hm1 hn1
  obtain ⟨mid, em, mid1, mid2⟩ : ∃ x : Nat, ((a : Int) + (b : Int)) / 2 = (x : Int) ∧ 2 * x ≤ a + b ∧ a + b ≤ 2 * x + 1 := ⟨(a + b) / 2, by omega, by omega, by omega⟩
  have wm1 : IntKind.i64.wrap ((a : Int) + (b : Int)) = (a : Int) + (b : Int) := by rw [IntKind.wrap_i64]; omega
  have wm2 : IntKind.u64.wrap ((a : Int) + (b : Int)) = (a : Int) + (b : Int) := by rw [IntKind.wrap_u64]; omega
  have wm3 : IntKind.i64.wrap (mid : Int) = (mid : Int) := by rw [IntKind.wrap_i64]; omega
  obtain ⟨nn, en1⟩ : ∃ x : Nat, (mid : Int) + (m : Int) = (x : Int) := ⟨mid + m, by omega⟩
  have wn : IntKind.i64.wrap (nn : Int) = (nn : Int) := by rw [IntKind.wrap_i64]; omega
  obtain ⟨pn, ep⟩ : ∃ x : Nat, (nn : Int) - 1 = (x : Int) := ⟨nn - 1, by omega⟩
  have wp : IntKind.i64.wrap (pn : Int) = (pn : Int) := by rw [IntKind.wrap_i64]; omega
  go_enter FG, Try.ntmps40
  go_upto_if 140 with (fail)
  go_cut [20, 21] (fun v20 v21 wc => ∃ (s0 r0 : Nat), v20 = .int .i64 s0 ∧ v21 = .int .i64 r0 ∧ Hid (a ≤ s0 ∧ s0 ≤ r0 ∧ r0 ≤ m ∧ r0 ≤ mid ∧ nn ≤ b + s0 ∧ m + r0 ≤ nn ∧ (s0 = a ∨ nn = b + s0) ∧ (r0 = m ∨ r0 = mid)) ∧ wc = w)
  case first =>
    by_cases hmm : mid < m
    · have hmz : (mid : Int) < (m : Int) := by omega
      obtain ⟨nb, enb⟩ : ∃ x : Nat, (nn : Int) - (b : Int) = (x : Int) := ⟨nn - b, by omega⟩
      have wnb : IntKind.i64.wrap (nb : Int) = (nb : Int) := by rw [IntKind.wrap_i64]; omega
      go_wp2
      go_meet
      case rel => exact ⟨nb, mid, by first | rfl | go_num, by first | rfl | go_num, (show Hid _ from ⟨by omega, by omega, by omega, by omega, by omega, by omega, .inr (by omega), .inr rfl⟩), rfl⟩
    · have hmz : ¬ (mid : Int) < (m : Int) := by omega
      go_wp2
      go_meet
      case rel => exact ⟨a, m, by first | rfl | go_num, by first | rfl | go_num, (show Hid _ from ⟨by omega, by omega, by omega, by omega, by omega, by omega, .inl rfl, .inl rfl⟩), rfl⟩
  case rest =>
    obtain ⟨s0, r0, rfl, rfl, HF, hwc⟩ := hcut
    subst hwc
    obtain ⟨f1, f2, f3, f4, f5, f6, f7, f8⟩ := HF.out
    have F7 : Hid _ := f7
    have F8 : Hid _ := f8
    clear f7 f8 HF
    go_wp2
    go_loopg [20, 21] (r0 - s0) (fun kx s1 s2 wr => ∃ (i j : Nat), s1 = .int .i64 i ∧ s2 = .int .i64 j ∧ s0 ≤ i ∧ i ≤ j ∧ j ≤ r0 ∧ j - i ≤ kx ∧ Hid (∀ h, s0 ≤ h → h < i → ltOf cf d[pn - h]! d[h]! = false) ∧ Hid (∀ h, j ≤ h → h < r0 → ltOf cf d[pn - h]! d[h]! = true) ∧ Aside (SWK enc k w0 blk off d wr))
    case atStart => exact ⟨s0, r0, rfl, rfl, Nat.le_refl _, by omega, Nat.le_refl _, Nat.le_refl _, (show Hid _ from fun h q1 q2 => by omega), (show Hid _ from fun h q1 q2 => by omega), S0⟩
    case round =>
      clear S0
      obtain ⟨i, j, rfl, rfl, hi1, hij, hj1, hkx, HL, HR, S1⟩ := hrel
      by_cases hlt : i < j
      · have hltz : (i : Int) < (j : Int) := by omega
        obtain ⟨h, rs3, hb1, hb2⟩ : ∃ x : Nat, ((i : Int) + (j : Int)) / 2 = (x : Int) ∧ i ≤ x ∧ x < j := ⟨(i + j) / 2, by omega, by omega, by omega⟩
        have rs1 : IntKind.i64.wrap ((i : Int) + (j : Int)) = (i : Int) + (j : Int) := by rw [IntKind.wrap_i64]; omega
        have rs2 : IntKind.u64.wrap ((i : Int) + (j : Int)) = (i : Int) + (j : Int) := by rw [IntKind.wrap_u64]; omega
        obtain ⟨pc, ex⟩ : ∃ x : Nat, (pn : Int) - (h : Int) = (x : Int) := ⟨pn - h, by omega⟩
        cases hq : ltOf cf d[pc]! d[h]! with
        | true =>
          have ea7t : ((pc : Int)).toNat = pc := by omega
          have pa7t : (0 : Int) ≤ (pc : Int) := by omega
          have ba7t : (pc : Int) < (d0.size : Int) := by omega
          have ra7t : IntKind.i64.wrap ((pc : Int)) = (pc : Int) := by rw [IntKind.wrap_i64]; omega
          have ec7t : ((h : Int)).toNat = h := by omega
          have pc7t : (0 : Int) ≤ (h : Int) := by omega
          have bc7t : (h : Int) < (d0.size : Int) := by omega
          have rc7t : IntKind.i64.wrap ((h : Int)) = (h : Int) := by rw [IntKind.wrap_i64]; omega
          obtain ⟨x7t, hx7t⟩ : ∃ x, x = d[pc]! := ⟨_, rfl⟩
          obtain ⟨y7t, hy7t⟩ : ∃ x, x = d[h]! := ⟨_, rfl⟩
          have l7ta := S1.out.ld R (by omega) P (pc) (by omega)
          have l7tb := S1.out.ld R (by omega) P (h) (by omega)
          rw [← hx7t] at l7ta
          rw [← hy7t] at l7tb
          have hc7t := S1.out.cmp HC.out (by omega) x7t y7t
          have hv7t : cf x7t y7t < 0 := by rw [hx7t, hy7t]; exact of_decide_eq_true hq
          have hd7t : decide (cf x7t y7t < 0) = true := decide_eq_true hv7t
          clear hx7t hy7t
          go_wp2_with fail
          go_quiet_grown (first | (go_at_fn g; refine Calls.grown_of (hc7t _ _)))
          have S2 : Aside (SWK enc k w0 blk off d (grow (wr.drewN nq) osq)) := S1.out.grown nq osq
          clear l7ta l7tb hc7t S1
          generalize grow (wr.drewN nq) osq = w2 at S2 ⊢
          clear nq osq
          go_wp2
          go_roundg (h - i)
          case measure => omega
          case rel =>
            refine ⟨i, h, rfl, by go_num, hi1, by omega, by omega, Nat.le_refl _, HL, (show Hid _ from fun q q1 q2 => ?_), S2⟩
            have l1 : ltOf cf d[pc]! d[pn - q]! = false := sorted_le HS.out H2.out (by omega) (by omega) (by omega)
            have l2 : ltOf cf d[q]! d[h]! = false := sorted_le HS.out H1.out (by omega) q1 (by omega)
            exact lt_of_lt_le HS.out (lt_of_le_lt HS.out l1 hq) l2
        | false =>
          have ea7f : ((pc : Int)).toNat = pc := by omega
          have pa7f : (0 : Int) ≤ (pc : Int) := by omega
          have ba7f : (pc : Int) < (d0.size : Int) := by omega
          have ra7f : IntKind.i64.wrap ((pc : Int)) = (pc : Int) := by rw [IntKind.wrap_i64]; omega
          have ec7f : ((h : Int)).toNat = h := by omega
          have pc7f : (0 : Int) ≤ (h : Int) := by omega
          have bc7f : (h : Int) < (d0.size : Int) := by omega
          have rc7f : IntKind.i64.wrap ((h : Int)) = (h : Int) := by rw [IntKind.wrap_i64]; omega
          obtain ⟨x7f, hx7f⟩ : ∃ x, x = d[pc]! := ⟨_, rfl⟩
          obtain ⟨y7f, hy7f⟩ : ∃ x, x = d[h]! := ⟨_, rfl⟩
          have l7fa := S1.out.ld R (by omega) P (pc) (by omega)
          have l7fb := S1.out.ld R (by omega) P (h) (by omega)
          rw [← hx7f] at l7fa
          rw [← hy7f] at l7fb
          have hc7f := S1.out.cmp HC.out (by omega) x7f y7f
          have hv7f : ¬ cf x7f y7f < 0 := by rw [hx7f, hy7f]; exact of_decide_eq_false hq
          have hd7f : decide (cf x7f y7f < 0) = false := decide_eq_false hv7f
          clear hx7f hy7f
          go_wp2_with fail
          go_quiet_grown (first | (go_at_fn g; refine Calls.grown_of (hc7f _ _)))
          have S2 : Aside (SWK enc k w0 blk off d (grow (wr.drewN nq) osq)) := S1.out.grown nq osq
          clear l7fa l7fb hc7f S1
          generalize grow (wr.drewN nq) osq = w2 at S2 ⊢
          clear nq osq
          go_wp2
          go_roundg (j - (h + 1))
          case measure => omega
          case rel =>
            refine ⟨h + 1, j, by go_num, rfl, by omega, by omega, hj1, Nat.le_refl _, (show Hid _ from fun q q1 q2 => ?_), HR, S2⟩
            have l1 : ltOf cf d[h]! d[q]! = false := sorted_le HS.out H1.out (by omega) (by omega) (by omega)
            have l2 : ltOf cf d[pn - q]! d[pc]! = false := sorted_le HS.out H2.out (by omega) (by omega) (by omega)
            exact le_trans' HS.out (le_trans' HS.out l1 hq) l2
      · have hltz : ¬ (i : Int) < (j : Int) := by omega
        have e : i = j := by omega
        subst e
        clear hlt hij hkx
        obtain ⟨en, een⟩ : ∃ x : Nat, (nn : Int) - (i : Int) = (x : Int) := ⟨nn - i, by omega⟩
        have wen : IntKind.i64.wrap (en : Int) = (en : Int) := by rw [IntKind.wrap_i64]; omega
        have hL : a < i → en < b → ltOf cf d[en]! d[i - 1]! = false := fun q1 q2 => by
          have f7 := F7.out
          have e1 : pn - (i - 1) = en := by omega
          rw [← e1]
          exact HL.out _ (by omega) (by omega)
        have hR : m < en → i < m → ltOf cf d[en - 1]! d[i]! = true := fun q1 q2 => by
          have f8 := F8.out
          have e1 : pn - i = en - 1 := by omega
          rw [← e1]
          exact HR.out _ (Nat.le_refl _) (by omega)
        have HLR : Hid ((a < i → en < b → ltOf cf d[en]! d[i - 1]! = false) ∧ (m < en → i < m → ltOf cf d[en - 1]! d[i]! = true)) := ⟨hL, hR⟩
        clear HL HR hL hR
        by_cases hA : i < m
        · have hAz : (i : Int) < (m : Int) := by omega
          by_cases hB : m < en
          · have hBz : (m : Int) < (en : Int) := by omega
            have hcall := CALL.out i m en d wr (by omega) S1.out hA hB (by omega)
            rw [hds] at hcall
            clear S1
            go_upto_region 41 with (go_at_fn 42; refine hcall.mono ?_; rintro e w7 ⟨rfl, g1, hrot, s7⟩)
            have HROT : Hid (Rot i m en d g1) := hrot
            have S7 : Aside _ := s7
            clear hrot s7
            have HK : Hid _ := merge_main HS.out a m b mid i en d g1 (by omega) (by omega) (by omega) (by omega) (by omega) H1.out H2.out HLR.out.1 HLR.out.2 HROT.out
            clear HLR
            have z1 : g1.size = d.size := HROT.out.1.1
            by_cases hC : a < i
            · have hCz : (a : Int) < (i : Int) := by omega
              by_cases hD : i < mid
              · have hDz : (i : Int) < (mid : Int) := by omega
                have hcall := IH.out a i mid g1 w7 (by omega) (by omega) S7.out hC hD (by omega) HK.out.1 HK.out.2.1
                clear S7
                go_upto_region 43 with (go_at_fn 40; refine hcall.mono ?_; rintro e w8 ⟨rfl, g2, p2, t2, s8⟩)
                have P2 : Hid _ := p2
                have T2 : Hid _ := t2
                have S8 : Aside _ := s8
                have z2 : g2.size = g1.size := p2.1
                clear p2 t2 s8
                by_cases hE : mid < en
                · have hEz : (mid : Int) < (en : Int) := by omega
                  by_cases hG : en < b
                  · have hGz : (en : Int) < (b : Int) := by omega
                    have hcall := IH.out mid en b g2 w8 (by omega) (by omega) S8.out hE hG (by omega) (sorted_out P2.out (.inr (by omega)) HK.out.2.2.1) (sorted_out P2.out (.inr (by omega)) HK.out.2.2.2.1)
                    clear S8
                    go_wp2_with (go_at_fn 40; refine hcall.mono ?_; rintro e w9 ⟨rfl, g3, p3, t3, s9⟩)
                    have S9 : Aside _ := s9
                    go_end0
                    refine ⟨rfl, g3, permIn_trans _ _ _ _ _ (permIn_mono _ _ _ _ _ _ (by omega) (by omega) (by omega) HROT.out.1) (permIn_trans _ _ _ _ _ (permIn_mono _ _ _ _ _ _ (Nat.le_refl _) (by omega) (by omega) P2.out) (permIn_mono _ _ _ _ _ _ (by omega) (Nat.le_refl _) (by omega) (p3))), ?_, S9.out⟩
                    exact merge_join a mid b g1 g2 g3 (by omega) (by omega) (by omega) HK.out.2.2.2.2 P2.out T2.out (p3) (t3)
                  · have hGz : ¬ (en : Int) < (b : Int) := by omega
                    go_wp2
                    go_end0
                    have eb : en = b := by omega
                    refine ⟨rfl, g2, permIn_trans _ _ _ _ _ (permIn_mono _ _ _ _ _ _ (by omega) (by omega) (by omega) HROT.out.1) (permIn_trans _ _ _ _ _ (permIn_mono _ _ _ _ _ _ (Nat.le_refl _) (by omega) (by omega) P2.out) (permIn_mono _ _ _ _ _ _ (by omega) (Nat.le_refl _) (by omega) (permIn_refl _ _ _))), ?_, S8.out⟩
                    exact merge_join a mid b g1 g2 g2 (by omega) (by omega) (by omega) HK.out.2.2.2.2 P2.out T2.out (permIn_refl _ _ _) (eb ▸ sorted_out P2.out (.inr (by omega)) HK.out.2.2.1)
                · have hEz : ¬ (mid : Int) < (en : Int) := by omega
                  go_wp2
                  go_end0
                  have eb : en = mid := by omega
                  refine ⟨rfl, g2, permIn_trans _ _ _ _ _ (permIn_mono _ _ _ _ _ _ (by omega) (by omega) (by omega) HROT.out.1) (permIn_trans _ _ _ _ _ (permIn_mono _ _ _ _ _ _ (Nat.le_refl _) (by omega) (by omega) P2.out) (permIn_mono _ _ _ _ _ _ (by omega) (Nat.le_refl _) (by omega) (permIn_refl _ _ _))), ?_, S8.out⟩
                  exact merge_join a mid b g1 g2 g2 (by omega) (by omega) (by omega) HK.out.2.2.2.2 P2.out T2.out (permIn_refl _ _ _) (eb ▸ sorted_out P2.out (.inr (by omega)) HK.out.2.2.2.1)
              · have hDz : ¬ (i : Int) < (mid : Int) := by omega
                obtain ⟨g2, z2, p2, t2, SX⟩ : ∃ g2 : Array α, g2.size = g1.size ∧ PermIn a mid g1 g2 ∧ SortedIn (ltOf cf) a mid g2 ∧ Aside (SWK enc k w0 blk off g2 w7) := ⟨g1, rfl, permIn_refl _ _ _, (show i = mid by omega) ▸ HK.out.1, S7⟩
                have P2 : Hid _ := p2
                have T2 : Hid _ := t2
                clear p2 t2
                by_cases hE : mid < en
                · have hEz : (mid : Int) < (en : Int) := by omega
                  by_cases hG : en < b
                  · have hGz : (en : Int) < (b : Int) := by omega
                    have hcall := IH.out mid en b g2 w7 (by omega) (by omega) SX.out hE hG (by omega) (sorted_out P2.out (.inr (by omega)) HK.out.2.2.1) (sorted_out P2.out (.inr (by omega)) HK.out.2.2.2.1)
                    clear SX
                    go_wp2_with (go_at_fn 40; refine hcall.mono ?_; rintro e w9 ⟨rfl, g3, p3, t3, s9⟩)
                    have S9 : Aside _ := s9
                    go_end0
                    refine ⟨rfl, g3, permIn_trans _ _ _ _ _ (permIn_mono _ _ _ _ _ _ (by omega) (by omega) (by omega) HROT.out.1) (permIn_trans _ _ _ _ _ (permIn_mono _ _ _ _ _ _ (Nat.le_refl _) (by omega) (by omega) P2.out) (permIn_mono _ _ _ _ _ _ (by omega) (Nat.le_refl _) (by omega) (p3))), ?_, S9.out⟩
                    exact merge_join a mid b g1 g2 g3 (by omega) (by omega) (by omega) HK.out.2.2.2.2 P2.out T2.out (p3) (t3)
                  · have hGz : ¬ (en : Int) < (b : Int) := by omega
                    go_wp2
                    go_end0
                    have eb : en = b := by omega
                    refine ⟨rfl, g2, permIn_trans _ _ _ _ _ (permIn_mono _ _ _ _ _ _ (by omega) (by omega) (by omega) HROT.out.1) (permIn_trans _ _ _ _ _ (permIn_mono _ _ _ _ _ _ (Nat.le_refl _) (by omega) (by omega) P2.out) (permIn_mono _ _ _ _ _ _ (by omega) (Nat.le_refl _) (by omega) (permIn_refl _ _ _))), ?_, SX.out⟩
                    exact merge_join a mid b g1 g2 g2 (by omega) (by omega) (by omega) HK.out.2.2.2.2 P2.out T2.out (permIn_refl _ _ _) (eb ▸ sorted_out P2.out (.inr (by omega)) HK.out.2.2.1)
                · have hEz : ¬ (mid : Int) < (en : Int) := by omega
                  go_wp2
                  go_end0
                  have eb : en = mid := by omega
                  refine ⟨rfl, g2, permIn_trans _ _ _ _ _ (permIn_mono _ _ _ _ _ _ (by omega) (by omega) (by omega) HROT.out.1) (permIn_trans _ _ _ _ _ (permIn_mono _ _ _ _ _ _ (Nat.le_refl _) (by omega) (by omega) P2.out) (permIn_mono _ _ _ _ _ _ (by omega) (Nat.le_refl _) (by omega) (permIn_refl _ _ _))), ?_, SX.out⟩
                  exact merge_join a mid b g1 g2 g2 (by omega) (by omega) (by omega) HK.out.2.2.2.2 P2.out T2.out (permIn_refl _ _ _) (eb ▸ sorted_out P2.out (.inr (by omega)) HK.out.2.2.2.1)
            · have hCz : ¬ (a : Int) < (i : Int) := by omega
              obtain ⟨g2, z2, p2, t2, SX⟩ : ∃ g2 : Array α, g2.size = g1.size ∧ PermIn a mid g1 g2 ∧ SortedIn (ltOf cf) a mid g2 ∧ Aside (SWK enc k w0 blk off g2 w7) := ⟨g1, rfl, permIn_refl _ _ _, (show i = a by omega) ▸ HK.out.2.1, S7⟩
              have P2 : Hid _ := p2
              have T2 : Hid _ := t2
              clear p2 t2
              by_cases hE : mid < en
              · have hEz : (mid : Int) < (en : Int) := by omega
                by_cases hG : en < b
                · have hGz : (en : Int) < (b : Int) := by omega
                  have hcall := IH.out mid en b g2 w7 (by omega) (by omega) SX.out hE hG (by omega) (sorted_out P2.out (.inr (by omega)) HK.out.2.2.1) (sorted_out P2.out (.inr (by omega)) HK.out.2.2.2.1)
                  clear SX
                  go_wp2_with (go_at_fn 40; refine hcall.mono ?_; rintro e w9 ⟨rfl, g3, p3, t3, s9⟩)
                  have S9 : Aside _ := s9
                  go_end0
                  refine ⟨rfl, g3, permIn_trans _ _ _ _ _ (permIn_mono _ _ _ _ _ _ (by omega) (by omega) (by omega) HROT.out.1) (permIn_trans _ _ _ _ _ (permIn_mono _ _ _ _ _ _ (Nat.le_refl _) (by omega) (by omega) P2.out) (permIn_mono _ _ _ _ _ _ (by omega) (Nat.le_refl _) (by omega) (p3))), ?_, S9.out⟩
                  exact merge_join a mid b g1 g2 g3 (by omega) (by omega) (by omega) HK.out.2.2.2.2 P2.out T2.out (p3) (t3)
                · have hGz : ¬ (en : Int) < (b : Int) := by omega
                  go_wp2
                  go_end0
                  have eb : en = b := by omega
                  refine ⟨rfl, g2, permIn_trans _ _ _ _ _ (permIn_mono _ _ _ _ _ _ (by omega) (by omega) (by omega) HROT.out.1) (permIn_trans _ _ _ _ _ (permIn_mono _ _ _ _ _ _ (Nat.le_refl _) (by omega) (by omega) P2.out) (permIn_mono _ _ _ _ _ _ (by omega) (Nat.le_refl _) (by omega) (permIn_refl _ _ _))), ?_, SX.out⟩
                  exact merge_join a mid b g1 g2 g2 (by omega) (by omega) (by omega) HK.out.2.2.2.2 P2.out T2.out (permIn_refl _ _ _) (eb ▸ sorted_out P2.out (.inr (by omega)) HK.out.2.2.1)
              · have hEz : ¬ (mid : Int) < (en : Int) := by omega
                go_wp2
                go_end0
                have eb : en = mid := by omega
                refine ⟨rfl, g2, permIn_trans _ _ _ _ _ (permIn_mono _ _ _ _ _ _ (by omega) (by omega) (by omega) HROT.out.1) (permIn_trans _ _ _ _ _ (permIn_mono _ _ _ _ _ _ (Nat.le_refl _) (by omega) (by omega) P2.out) (permIn_mono _ _ _ _ _ _ (by omega) (Nat.le_refl _) (by omega) (permIn_refl _ _ _))), ?_, SX.out⟩
                exact merge_join a mid b g1 g2 g2 (by omega) (by omega) (by omega) HK.out.2.2.2.2 P2.out T2.out (permIn_refl _ _ _) (eb ▸ sorted_out P2.out (.inr (by omega)) HK.out.2.2.2.1)
          · have hBz : ¬ (m : Int) < (en : Int) := by omega
            obtain ⟨g1, hrot, S7⟩ : ∃ g1 : Array α, Rot i m en d g1 ∧ Aside (SWK enc k w0 blk off g1 wr) := ⟨d, rot_none i m en d (.inr (by omega)) (by omega) (by omega), S1⟩
            have HROT : Hid (Rot i m en d g1) := hrot
            clear hrot S1
            have HK : Hid _ := merge_main HS.out a m b mid i en d g1 (by omega) (by omega) (by omega) (by omega) (by omega) H1.out H2.out HLR.out.1 HLR.out.2 HROT.out
            clear HLR
            have z1 : g1.size = d.size := HROT.out.1.1
            by_cases hC : a < i
            · have hCz : (a : Int) < (i : Int) := by omega
              by_cases hD : i < mid
              · have hDz : (i : Int) < (mid : Int) := by omega
                have hcall := IH.out a i mid g1 wr (by omega) (by omega) S7.out hC hD (by omega) HK.out.1 HK.out.2.1
                clear S7
                go_upto_region 43 with (go_at_fn 40; refine hcall.mono ?_; rintro e w8 ⟨rfl, g2, p2, t2, s8⟩)
                have P2 : Hid _ := p2
                have T2 : Hid _ := t2
                have S8 : Aside _ := s8
                have z2 : g2.size = g1.size := p2.1
                clear p2 t2 s8
                by_cases hE : mid < en
                · have hEz : (mid : Int) < (en : Int) := by omega
                  by_cases hG : en < b
                  · have hGz : (en : Int) < (b : Int) := by omega
                    have hcall := IH.out mid en b g2 w8 (by omega) (by omega) S8.out hE hG (by omega) (sorted_out P2.out (.inr (by omega)) HK.out.2.2.1) (sorted_out P2.out (.inr (by omega)) HK.out.2.2.2.1)
                    clear S8
                    go_wp2_with (go_at_fn 40; refine hcall.mono ?_; rintro e w9 ⟨rfl, g3, p3, t3, s9⟩)
                    have S9 : Aside _ := s9
                    go_end0
                    refine ⟨rfl, g3, permIn_trans _ _ _ _ _ (permIn_mono _ _ _ _ _ _ (by omega) (by omega) (by omega) HROT.out.1) (permIn_trans _ _ _ _ _ (permIn_mono _ _ _ _ _ _ (Nat.le_refl _) (by omega) (by omega) P2.out) (permIn_mono _ _ _ _ _ _ (by omega) (Nat.le_refl _) (by omega) (p3))), ?_, S9.out⟩
                    exact merge_join a mid b g1 g2 g3 (by omega) (by omega) (by omega) HK.out.2.2.2.2 P2.out T2.out (p3) (t3)
                  · have hGz : ¬ (en : Int) < (b : Int) := by omega
                    go_wp2
                    go_end0
                    have eb : en = b := by omega
                    refine ⟨rfl, g2, permIn_trans _ _ _ _ _ (permIn_mono _ _ _ _ _ _ (by omega) (by omega) (by omega) HROT.out.1) (permIn_trans _ _ _ _ _ (permIn_mono _ _ _ _ _ _ (Nat.le_refl _) (by omega) (by omega) P2.out) (permIn_mono _ _ _ _ _ _ (by omega) (Nat.le_refl _) (by omega) (permIn_refl _ _ _))), ?_, S8.out⟩
                    exact merge_join a mid b g1 g2 g2 (by omega) (by omega) (by omega) HK.out.2.2.2.2 P2.out T2.out (permIn_refl _ _ _) (eb ▸ sorted_out P2.out (.inr (by omega)) HK.out.2.2.1)
                · have hEz : ¬ (mid : Int) < (en : Int) := by omega
                  go_wp2
                  go_end0
                  have eb : en = mid := by omega
                  refine ⟨rfl, g2, permIn_trans _ _ _ _ _ (permIn_mono _ _ _ _ _ _ (by omega) (by omega) (by omega) HROT.out.1) (permIn_trans _ _ _ _ _ (permIn_mono _ _ _ _ _ _ (Nat.le_refl _) (by omega) (by omega) P2.out) (permIn_mono _ _ _ _ _ _ (by omega) (Nat.le_refl _) (by omega) (permIn_refl _ _ _))), ?_, S8.out⟩
                  exact merge_join a mid b g1 g2 g2 (by omega) (by omega) (by omega) HK.out.2.2.2.2 P2.out T2.out (permIn_refl _ _ _) (eb ▸ sorted_out P2.out (.inr (by omega)) HK.out.2.2.2.1)
              · have hDz : ¬ (i : Int) < (mid : Int) := by omega
                obtain ⟨g2, z2, p2, t2, SX⟩ : ∃ g2 : Array α, g2.size = g1.size ∧ PermIn a mid g1 g2 ∧ SortedIn (ltOf cf) a mid g2 ∧ Aside (SWK enc k w0 blk off g2 wr) := ⟨g1, rfl, permIn_refl _ _ _, (show i = mid by omega) ▸ HK.out.1, S7⟩
                have P2 : Hid _ := p2
                have T2 : Hid _ := t2
                clear p2 t2
                by_cases hE : mid < en
                · have hEz : (mid : Int) < (en : Int) := by omega
                  by_cases hG : en < b
                  · have hGz : (en : Int) < (b : Int) := by omega
                    have hcall := IH.out mid en b g2 wr (by omega) (by omega) SX.out hE hG (by omega) (sorted_out P2.out (.inr (by omega)) HK.out.2.2.1) (sorted_out P2.out (.inr (by omega)) HK.out.2.2.2.1)
                    clear SX
                    go_wp2_with (go_at_fn 40; refine hcall.mono ?_; rintro e w9 ⟨rfl, g3, p3, t3, s9⟩)
                    have S9 : Aside _ := s9
                    go_end0
                    refine ⟨rfl, g3, permIn_trans _ _ _ _ _ (permIn_mono _ _ _ _ _ _ (by omega) (by omega) (by omega) HROT.out.1) (permIn_trans _ _ _ _ _ (permIn_mono _ _ _ _ _ _ (Nat.le_refl _) (by omega) (by omega) P2.out) (permIn_mono _ _ _ _ _ _ (by omega) (Nat.le_refl _) (by omega) (p3))), ?_, S9.out⟩
                    exact merge_join a mid b g1 g2 g3 (by omega) (by omega) (by omega) HK.out.2.2.2.2 P2.out T2.out (p3) (t3)
                  · have hGz : ¬ (en : Int) < (b : Int) := by omega
                    go_wp2
                    go_end0
                    have eb : en = b := by omega
                    refine ⟨rfl, g2, permIn_trans _ _ _ _ _ (permIn_mono _ _ _ _ _ _ (by omega) (by omega) (by omega) HROT.out.1) (permIn_trans _ _ _ _ _ (permIn_mono _ _ _ _ _ _ (Nat.le_refl _) (by omega) (by omega) P2.out) (permIn_mono _ _ _ _ _ _ (by omega) (Nat.le_refl _) (by omega) (permIn_refl _ _ _))), ?_, SX.out⟩
                    exact merge_join a mid b g1 g2 g2 (by omega) (by omega) (by omega) HK.out.2.2.2.2 P2.out T2.out (permIn_refl _ _ _) (eb ▸ sorted_out P2.out (.inr (by omega)) HK.out.2.2.1)
                · have hEz : ¬ (mid : Int) < (en : Int) := by omega
                  go_wp2
                  go_end0
                  have eb : en = mid := by omega
                  refine ⟨rfl, g2, permIn_trans _ _ _ _ _ (permIn_mono _ _ _ _ _ _ (by omega) (by omega) (by omega) HROT.out.1) (permIn_trans _ _ _ _ _ (permIn_mono _ _ _ _ _ _ (Nat.le_refl _) (by omega) (by omega) P2.out) (permIn_mono _ _ _ _ _ _ (by omega) (Nat.le_refl _) (by omega) (permIn_refl _ _ _))), ?_, SX.out⟩
                  exact merge_join a mid b g1 g2 g2 (by omega) (by omega) (by omega) HK.out.2.2.2.2 P2.out T2.out (permIn_refl _ _ _) (eb ▸ sorted_out P2.out (.inr (by omega)) HK.out.2.2.2.1)
            · have hCz : ¬ (a : Int) < (i : Int) := by omega
              obtain ⟨g2, z2, p2, t2, SX⟩ : ∃ g2 : Array α, g2.size = g1.size ∧ PermIn a mid g1 g2 ∧ SortedIn (ltOf cf) a mid g2 ∧ Aside (SWK enc k w0 blk off g2 wr) := ⟨g1, rfl, permIn_refl _ _ _, (show i = a by omega) ▸ HK.out.2.1, S7⟩
              have P2 : Hid _ := p2
              have T2 : Hid _ := t2
              clear p2 t2
              by_cases hE : mid < en
              · have hEz : (mid : Int) < (en : Int) := by omega
                by_cases hG : en < b
                · have hGz : (en : Int) < (b : Int) := by omega
                  have hcall := IH.out mid en b g2 wr (by omega) (by omega) SX.out hE hG (by omega) (sorted_out P2.out (.inr (by omega)) HK.out.2.2.1) (sorted_out P2.out (.inr (by omega)) HK.out.2.2.2.1)
                  clear SX
                  go_wp2_with (go_at_fn 40; refine hcall.mono ?_; rintro e w9 ⟨rfl, g3, p3, t3, s9⟩)
                  have S9 : Aside _ := s9
                  go_end0
                  refine ⟨rfl, g3, permIn_trans _ _ _ _ _ (permIn_mono _ _ _ _ _ _ (by omega) (by omega) (by omega) HROT.out.1) (permIn_trans _ _ _ _ _ (permIn_mono _ _ _ _ _ _ (Nat.le_refl _) (by omega) (by omega) P2.out) (permIn_mono _ _ _ _ _ _ (by omega) (Nat.le_refl _) (by omega) (p3))), ?_, S9.out⟩
                  exact merge_join a mid b g1 g2 g3 (by omega) (by omega) (by omega) HK.out.2.2.2.2 P2.out T2.out (p3) (t3)
                · have hGz : ¬ (en : Int) < (b : Int) := by omega
                  go_wp2
                  go_end0
                  have eb : en = b := by omega
                  refine ⟨rfl, g2, permIn_trans _ _ _ _ _ (permIn_mono _ _ _ _ _ _ (by omega) (by omega) (by omega) HROT.out.1) (permIn_trans _ _ _ _ _ (permIn_mono _ _ _ _ _ _ (Nat.le_refl _) (by omega) (by omega) P2.out) (permIn_mono _ _ _ _ _ _ (by omega) (Nat.le_refl _) (by omega) (permIn_refl _ _ _))), ?_, SX.out⟩
                  exact merge_join a mid b g1 g2 g2 (by omega) (by omega) (by omega) HK.out.2.2.2.2 P2.out T2.out (permIn_refl _ _ _) (eb ▸ sorted_out P2.out (.inr (by omega)) HK.out.2.2.1)
              · have hEz : ¬ (mid : Int) < (en : Int) := by omega
                go_wp2
                go_end0
                have eb : en = mid := by omega
                refine ⟨rfl, g2, permIn_trans _ _ _ _ _ (permIn_mono _ _ _ _ _ _ (by omega) (by omega) (by omega) HROT.out.1) (permIn_trans _ _ _ _ _ (permIn_mono _ _ _ _ _ _ (Nat.le_refl _) (by omega) (by omega) P2.out) (permIn_mono _ _ _ _ _ _ (by omega) (Nat.le_refl _) (by omega) (permIn_refl _ _ _))), ?_, SX.out⟩
                exact merge_join a mid b g1 g2 g2 (by omega) (by omega) (by omega) HK.out.2.2.2.2 P2.out T2.out (permIn_refl _ _ _) (eb ▸ sorted_out P2.out (.inr (by omega)) HK.out.2.2.2.1)
        · have hAz : ¬ (i : Int) < (m : Int) := by omega
          obtain ⟨g1, hrot, S7⟩ : ∃ g1 : Array α, Rot i m en d g1 ∧ Aside (SWK enc k w0 blk off g1 wr) := ⟨d, rot_none i m en d (.inl (by omega)) (by omega) (by omega), S1⟩
          have HROT : Hid (Rot i m en d g1) := hrot
          clear hrot S1
          have HK : Hid _ := merge_main HS.out a m b mid i en d g1 (by omega) (by omega) (by omega) (by omega) (by omega) H1.out H2.out HLR.out.1 HLR.out.2 HROT.out
          clear HLR
          have z1 : g1.size = d.size := HROT.out.1.1
          by_cases hC : a < i
          · have hCz : (a : Int) < (i : Int) := by omega
            by_cases hD : i < mid
            · have hDz : (i : Int) < (mid : Int) := by omega
              have hcall := IH.out a i mid g1 wr (by omega) (by omega) S7.out hC hD (by omega) HK.out.1 HK.out.2.1
              clear S7
              go_upto_region 43 with (go_at_fn 40; refine hcall.mono ?_; rintro e w8 ⟨rfl, g2, p2, t2, s8⟩)
              have P2 : Hid _ := p2
              have T2 : Hid _ := t2
              have S8 : Aside _ := s8
              have z2 : g2.size = g1.size := p2.1
              clear p2 t2 s8
              by_cases hE : mid < en
              · have hEz : (mid : Int) < (en : Int) := by omega
                by_cases hG : en < b
                · have hGz : (en : Int) < (b : Int) := by omega
                  have hcall := IH.out mid en b g2 w8 (by omega) (by omega) S8.out hE hG (by omega) (sorted_out P2.out (.inr (by omega)) HK.out.2.2.1) (sorted_out P2.out (.inr (by omega)) HK.out.2.2.2.1)
                  clear S8
                  go_wp2_with (go_at_fn 40; refine hcall.mono ?_; rintro e w9 ⟨rfl, g3, p3, t3, s9⟩)
                  have S9 : Aside _ := s9
                  go_end0
                  refine ⟨rfl, g3, permIn_trans _ _ _ _ _ (permIn_mono _ _ _ _ _ _ (by omega) (by omega) (by omega) HROT.out.1) (permIn_trans _ _ _ _ _ (permIn_mono _ _ _ _ _ _ (Nat.le_refl _) (by omega) (by omega) P2.out) (permIn_mono _ _ _ _ _ _ (by omega) (Nat.le_refl _) (by omega) (p3))), ?_, S9.out⟩
                  exact merge_join a mid b g1 g2 g3 (by omega) (by omega) (by omega) HK.out.2.2.2.2 P2.out T2.out (p3) (t3)
                · have hGz : ¬ (en : Int) < (b : Int) := by omega
                  go_wp2
                  go_end0
                  have eb : en = b := by omega
                  refine ⟨rfl, g2, permIn_trans _ _ _ _ _ (permIn_mono _ _ _ _ _ _ (by omega) (by omega) (by omega) HROT.out.1) (permIn_trans _ _ _ _ _ (permIn_mono _ _ _ _ _ _ (Nat.le_refl _) (by omega) (by omega) P2.out) (permIn_mono _ _ _ _ _ _ (by omega) (Nat.le_refl _) (by omega) (permIn_refl _ _ _))), ?_, S8.out⟩
                  exact merge_join a mid b g1 g2 g2 (by omega) (by omega) (by omega) HK.out.2.2.2.2 P2.out T2.out (permIn_refl _ _ _) (eb ▸ sorted_out P2.out (.inr (by omega)) HK.out.2.2.1)
              · have hEz : ¬ (mid : Int) < (en : Int) := by omega
                go_wp2
                go_end0
                have eb : en = mid := by omega
                refine ⟨rfl, g2, permIn_trans _ _ _ _ _ (permIn_mono _ _ _ _ _ _ (by omega) (by omega) (by omega) HROT.out.1) (permIn_trans _ _ _ _ _ (permIn_mono _ _ _ _ _ _ (Nat.le_refl _) (by omega) (by omega) P2.out) (permIn_mono _ _ _ _ _ _ (by omega) (Nat.le_refl _) (by omega) (permIn_refl _ _ _))), ?_, S8.out⟩
                exact merge_join a mid b g1 g2 g2 (by omega) (by omega) (by omega) HK.out.2.2.2.2 P2.out T2.out (permIn_refl _ _ _) (eb ▸ sorted_out P2.out (.inr (by omega)) HK.out.2.2.2.1)
            · have hDz : ¬ (i : Int) < (mid : Int) := by omega
              obtain ⟨g2, z2, p2, t2, SX⟩ : ∃ g2 : Array α, g2.size = g1.size ∧ PermIn a mid g1 g2 ∧ SortedIn (ltOf cf) a mid g2 ∧ Aside (SWK enc k w0 blk off g2 wr) := ⟨g1, rfl, permIn_refl _ _ _, (show i = mid by omega) ▸ HK.out.1, S7⟩
              have P2 : Hid _ := p2
              have T2 : Hid _ := t2
              clear p2 t2
              by_cases hE : mid < en
              · have hEz : (mid : Int) < (en : Int) := by omega
                by_cases hG : en < b
                · have hGz : (en : Int) < (b : Int) := by omega
                  have hcall := IH.out mid en b g2 wr (by omega) (by omega) SX.out hE hG (by omega) (sorted_out P2.out (.inr (by omega)) HK.out.2.2.1) (sorted_out P2.out (.inr (by omega)) HK.out.2.2.2.1)
                  clear SX
                  go_wp2_with (go_at_fn 40; refine hcall.mono ?_; rintro e w9 ⟨rfl, g3, p3, t3, s9⟩)
                  have S9 : Aside _ := s9
                  go_end0
                  refine ⟨rfl, g3, permIn_trans _ _ _ _ _ (permIn_mono _ _ _ _ _ _ (by omega) (by omega) (by omega) HROT.out.1) (permIn_trans _ _ _ _ _ (permIn_mono _ _ _ _ _ _ (Nat.le_refl _) (by omega) (by omega) P2.out) (permIn_mono _ _ _ _ _ _ (by omega) (Nat.le_refl _) (by omega) (p3))), ?_, S9.out⟩
                  exact merge_join a mid b g1 g2 g3 (by omega) (by omega) (by omega) HK.out.2.2.2.2 P2.out T2.out (p3) (t3)
                · have hGz : ¬ (en : Int) < (b : Int) := by omega
                  go_wp2
                  go_end0
                  have eb : en = b := by omega
                  refine ⟨rfl, g2, permIn_trans _ _ _ _ _ (permIn_mono _ _ _ _ _ _ (by omega) (by omega) (by omega) HROT.out.1) (permIn_trans _ _ _ _ _ (permIn_mono _ _ _ _ _ _ (Nat.le_refl _) (by omega) (by omega) P2.out) (permIn_mono _ _ _ _ _ _ (by omega) (Nat.le_refl _) (by omega) (permIn_refl _ _ _))), ?_, SX.out⟩
                  exact merge_join a mid b g1 g2 g2 (by omega) (by omega) (by omega) HK.out.2.2.2.2 P2.out T2.out (permIn_refl _ _ _) (eb ▸ sorted_out P2.out (.inr (by omega)) HK.out.2.2.1)
              · have hEz : ¬ (mid : Int) < (en : Int) := by omega
                go_wp2
                go_end0
                have eb : en = mid := by omega
                refine ⟨rfl, g2, permIn_trans _ _ _ _ _ (permIn_mono _ _ _ _ _ _ (by omega) (by omega) (by omega) HROT.out.1) (permIn_trans _ _ _ _ _ (permIn_mono _ _ _ _ _ _ (Nat.le_refl _) (by omega) (by omega) P2.out) (permIn_mono _ _ _ _ _ _ (by omega) (Nat.le_refl _) (by omega) (permIn_refl _ _ _))), ?_, SX.out⟩
                exact merge_join a mid b g1 g2 g2 (by omega) (by omega) (by omega) HK.out.2.2.2.2 P2.out T2.out (permIn_refl _ _ _) (eb ▸ sorted_out P2.out (.inr (by omega)) HK.out.2.2.2.1)
          · have hCz : ¬ (a : Int) < (i : Int) := by omega
            obtain ⟨g2, z2, p2, t2, SX⟩ : ∃ g2 : Array α, g2.size = g1.size ∧ PermIn a mid g1 g2 ∧ SortedIn (ltOf cf) a mid g2 ∧ Aside (SWK enc k w0 blk off g2 wr) := ⟨g1, rfl, permIn_refl _ _ _, (show i = a by omega) ▸ HK.out.2.1, S7⟩
            have P2 : Hid _ := p2
            have T2 : Hid _ := t2
            clear p2 t2
            by_cases hE : mid < en
            · have hEz : (mid : Int) < (en : Int) := by omega
              by_cases hG : en < b
              · have hGz : (en : Int) < (b : Int) := by omega
                have hcall := IH.out mid en b g2 wr (by omega) (by omega) SX.out hE hG (by omega) (sorted_out P2.out (.inr (by omega)) HK.out.2.2.1) (sorted_out P2.out (.inr (by omega)) HK.out.2.2.2.1)
                clear SX
                go_wp2_with (go_at_fn 40; refine hcall.mono ?_; rintro e w9 ⟨rfl, g3, p3, t3, s9⟩)
                have S9 : Aside _ := s9
                go_end0
                refine ⟨rfl, g3, permIn_trans _ _ _ _ _ (permIn_mono _ _ _ _ _ _ (by omega) (by omega) (by omega) HROT.out.1) (permIn_trans _ _ _ _ _ (permIn_mono _ _ _ _ _ _ (Nat.le_refl _) (by omega) (by omega) P2.out) (permIn_mono _ _ _ _ _ _ (by omega) (Nat.le_refl _) (by omega) (p3))), ?_, S9.out⟩
                exact merge_join a mid b g1 g2 g3 (by omega) (by omega) (by omega) HK.out.2.2.2.2 P2.out T2.out (p3) (t3)
              · have hGz : ¬ (en : Int) < (b : Int) := by omega
                go_wp2
                go_end0
                have eb : en = b := by omega
                refine ⟨rfl, g2, permIn_trans _ _ _ _ _ (permIn_mono _ _ _ _ _ _ (by omega) (by omega) (by omega) HROT.out.1) (permIn_trans _ _ _ _ _ (permIn_mono _ _ _ _ _ _ (Nat.le_refl _) (by omega) (by omega) P2.out) (permIn_mono _ _ _ _ _ _ (by omega) (Nat.le_refl _) (by omega) (permIn_refl _ _ _))), ?_, SX.out⟩
                exact merge_join a mid b g1 g2 g2 (by omega) (by omega) (by omega) HK.out.2.2.2.2 P2.out T2.out (permIn_refl _ _ _) (eb ▸ sorted_out P2.out (.inr (by omega)) HK.out.2.2.1)
            · have hEz : ¬ (mid : Int) < (en : Int) := by omega
              go_wp2
              go_end0
              have eb : en = mid := by omega
              refine ⟨rfl, g2, permIn_trans _ _ _ _ _ (permIn_mono _ _ _ _ _ _ (by omega) (by omega) (by omega) HROT.out.1) (permIn_trans _ _ _ _ _ (permIn_mono _ _ _ _ _ _ (Nat.le_refl _) (by omega) (by omega) P2.out) (permIn_mono _ _ _ _ _ _ (by omega) (Nat.le_refl _) (by omega) (permIn_refl _ _ _))), ?_, SX.out⟩
              exact merge_join a mid b g1 g2 g2 (by omega) (by omega) (by omega) HK.out.2.2.2.2 P2.out T2.out (permIn_refl _ _ _) (eb ▸ sorted_out P2.out (.inr (by omega)) HK.out.2.2.2.1)
end Go.Proofs.Ytalhphclogbpnaa.St
