/- Parts of one claim's proof, put together (merge.py). -/
import Derived.Test.YtalhphclogbpnaaStWalk
/- symMerge where the left run is of one element. Written by a program of this repo (stgen.py). -/
namespace Go.Proofs.Ytalhphclogbpnaa.St
open Go.Shelf Go.RowKit Go.Lib Go.Sort Go.Proofs
set_option linter.unusedVariables false
set_option linter.unusedSimpArgs false
variable {P : Program} {α : Type} [Inhabited α]
set_option maxHeartbeats 4000000 in
set_option maxRecDepth 1000000 in
theorem symA (L : Lay P) (k : Nat) (aE : ∀ w, (isAgg 34).run P w = .ok true w) (zE : ∀ w, (Go.sizeOf 34).run P w = .ok k w) (enc : α → List Value) (cf : α → α → Int) (g : Nat) (cb : Array Value) (blk off cap : Nat) (d0 : Array α) (w0 : World) (eg : ∀ args w, (callFunc g args).run P w = .ok (.enter g args) w) (hcmp : CmpLays P g cb enc k cf blk off d0.size w0) (hS : SWO (ltOf cf)) (R : RowK enc k w0 blk off d0) (hsz : d0.size < 1000000) (a m b : Nat) (d : Array α) (w : World) (hds : d.size = d0.size) (S : SWK enc k w0 blk off d w) (h1 : a < m) (h2 : m < b) (h3 : b ≤ d.size) (s1 : SortedIn (ltOf cf) a m d) (s2 : SortedIn (ltOf cf) m b d) (hm1 : m = a + 1) :
    Calls P 40 #[.slice (some ⟨blk, off, none⟩) d0.size cap, .int .i64 a, .int .i64 m, .int .i64 b, .func (.func g) #[] cb] w fun e w' => e = .returned (.tuple #[]) ∧ ∃ f, PermIn a b d f ∧ SortedIn (ltOf cf) a b f ∧ SWK enc k w0 blk off f w' := by
  have mixed := L.mixed
  have t0 := L.t0; have a0 := L.a0; have z0 := L.z0; have v0 := L.v0
  have t3 := L.t3; have a3 := L.a3; have z3 := L.z3; have v3 := L.v3
  have t4 := L.t4; have a4 := L.a4; have z4 := L.z4; have v4 := L.v4
  have tsl := L.tsl; have asl := L.asl; have zsl := L.zsl; have vsl := L.vsl
  have tfn := L.tfn; have afn := L.afn; have zfn := L.zfn; have vfn := L.vfn
  have tui := L.tui; have aui := L.aui; have zui := L.zui; have vui := L.vui
  have FG := L.symMergeCmpFunc
  have HC : Aside _ := hcmp
  have S0 : Aside (SWK enc k w0 blk off d w) := S
  have HS : Hid (SWO (ltOf cf)) := hS
  have H1 : Hid (SortedIn (ltOf cf) a m d) := s1
  have H2 : Hid (SortedIn (ltOf cf) m b d) := s2
  clear S hcmp s1 s2
  have wa : IntKind.i64.wrap ((m : Int) - (a : Int)) = (m : Int) - (a : Int) := by rw [IntKind.wrap_i64]; omega
  have wb : IntKind.i64.wrap ((b : Int) - (m : Int)) = (b : Int) - (m : Int) := by rw [IntKind.wrap_i64]; omega
  have c1 : ((m : Int) - (a : Int) == 1) = true := beq_iff_eq.mpr (by omega)
  have c2 : (m : Int) - (a : Int) = 1 := by omega
  clear hm1
  go_enter FG, Try.ntmps40
  go_wp2
  go_loopg [10, 11] (b - m) (fun kx s1 s2 wr => ∃ (i j : Nat), s1 = .int .i64 i ∧ s2 = .int .i64 j ∧ m ≤ i ∧ i ≤ j ∧ j ≤ b ∧ j - i ≤ kx ∧ Hid (∀ h, m ≤ h → h < i → ltOf cf d[h]! d[a]! = true) ∧ Hid (∀ h, j ≤ h → h < b → ltOf cf d[h]! d[a]! = false) ∧ Aside (SWK enc k w0 blk off d wr))
  case atStart => exact ⟨m, b, rfl, rfl, Nat.le_refl _, by omega, Nat.le_refl _, Nat.le_refl _, (show Hid _ from fun h q1 q2 => by omega), (show Hid _ from fun h q1 q2 => by omega), S0⟩
  case round =>
    clear S0
    obtain ⟨i, j, rfl, rfl, hi1, hij, hj1, hkx, HL, HR, S1⟩ := hrel
    by_cases hlt : i < j
    · have hltz : (i : Int) < (j : Int) := by omega
      obtain ⟨h, rs3, hb1, hb2⟩ : ∃ x : Nat, ((i : Int) + (j : Int)) / 2 = (x : Int) ∧ i ≤ x ∧ x < j := ⟨(i + j) / 2, by omega, by omega, by omega⟩
      have rs1 : IntKind.i64.wrap ((i : Int) + (j : Int)) = (i : Int) + (j : Int) := by rw [IntKind.wrap_i64]; omega
      have rs2 : IntKind.u64.wrap ((i : Int) + (j : Int)) = (i : Int) + (j : Int) := by rw [IntKind.wrap_u64]; omega
      cases hq : ltOf cf d[h]! d[a]! with
      | true =>
        have ea3t : ((h : Int)).toNat = h := by omega
        have pa3t : (0 : Int) ≤ (h : Int) := by omega
        have ba3t : (h : Int) < (d0.size : Int) := by omega
        have ra3t : IntKind.i64.wrap ((h : Int)) = (h : Int) := by rw [IntKind.wrap_i64]; omega
        have ec3t : ((a : Int)).toNat = a := by omega
        have pc3t : (0 : Int) ≤ (a : Int) := by omega
        have bc3t : (a : Int) < (d0.size : Int) := by omega
        have rc3t : IntKind.i64.wrap ((a : Int)) = (a : Int) := by rw [IntKind.wrap_i64]; omega
        obtain ⟨x3t, hx3t⟩ : ∃ x, x = d[h]! := ⟨_, rfl⟩
        obtain ⟨y3t, hy3t⟩ : ∃ x, x = d[a]! := ⟨_, rfl⟩
        have l3ta := S1.out.ld R (by omega) P (h) (by omega)
        have l3tb := S1.out.ld R (by omega) P (a) (by omega)
        rw [← hx3t] at l3ta
        rw [← hy3t] at l3tb
        have hc3t := S1.out.cmp HC.out (by omega) x3t y3t
        have hv3t : cf x3t y3t < 0 := by rw [hx3t, hy3t]; exact of_decide_eq_true hq
        have hd3t : decide (cf x3t y3t < 0) = true := decide_eq_true hv3t
        clear hx3t hy3t
        go_wp2_with fail
        go_quiet_grown (first | (go_at_fn g; refine Calls.grown_of (hc3t _ _)))
        have S2 : Aside (SWK enc k w0 blk off d (grow (wr.drewN nq) osq)) := S1.out.grown nq osq
        clear l3ta l3tb hc3t S1
        generalize grow (wr.drewN nq) osq = w2 at S2 ⊢
        clear nq osq
        go_wp2
        go_roundg (j - (h + 1))
        case measure => omega
        case rel => exact ⟨h + 1, j, by go_num, rfl, by omega, by omega, hj1, Nat.le_refl _, (show Hid _ from fun q q1 q2 => lt_of_le_lt HS.out (sorted_le HS.out H2.out q1 (show q ≤ h by omega) (by omega)) hq), HR, S2⟩
      | false =>
        have ea3f : ((h : Int)).toNat = h := by omega
        have pa3f : (0 : Int) ≤ (h : Int) := by omega
        have ba3f : (h : Int) < (d0.size : Int) := by omega
        have ra3f : IntKind.i64.wrap ((h : Int)) = (h : Int) := by rw [IntKind.wrap_i64]; omega
        have ec3f : ((a : Int)).toNat = a := by omega
        have pc3f : (0 : Int) ≤ (a : Int) := by omega
        have bc3f : (a : Int) < (d0.size : Int) := by omega
        have rc3f : IntKind.i64.wrap ((a : Int)) = (a : Int) := by rw [IntKind.wrap_i64]; omega
        obtain ⟨x3f, hx3f⟩ : ∃ x, x = d[h]! := ⟨_, rfl⟩
        obtain ⟨y3f, hy3f⟩ : ∃ x, x = d[a]! := ⟨_, rfl⟩
        have l3fa := S1.out.ld R (by omega) P (h) (by omega)
        have l3fb := S1.out.ld R (by omega) P (a) (by omega)
        rw [← hx3f] at l3fa
        rw [← hy3f] at l3fb
        have hc3f := S1.out.cmp HC.out (by omega) x3f y3f
        have hv3f : ¬ cf x3f y3f < 0 := by rw [hx3f, hy3f]; exact of_decide_eq_false hq
        have hd3f : decide (cf x3f y3f < 0) = false := decide_eq_false hv3f
        clear hx3f hy3f
        go_wp2_with fail
        go_quiet_grown (first | (go_at_fn g; refine Calls.grown_of (hc3f _ _)))
        have S2 : Aside (SWK enc k w0 blk off d (grow (wr.drewN nq) osq)) := S1.out.grown nq osq
        clear l3fa l3fb hc3f S1
        generalize grow (wr.drewN nq) osq = w2 at S2 ⊢
        clear nq osq
        go_wp2
        go_roundg (h - i)
        case measure => omega
        case rel => exact ⟨i, h, rfl, by go_num, hi1, by omega, by omega, Nat.le_refl _, HL, (show Hid _ from fun q q1 q2 => ge_of_ge_le HS.out hq (sorted_le HS.out H2.out (by omega) q1 q2)), S2⟩
    · have hltz : ¬ (i : Int) < (j : Int) := by omega
      have e : i = j := by omega
      subst e
      clear hlt hij hkx
      have wi1 : IntKind.i64.wrap ((i : Int) - 1) = (i : Int) - 1 := by rw [IntKind.wrap_i64]; omega
      go_wp2
      go_loopg [13] (i - 1 - a) (fun kx s13 wr2 => ∃ (x : Nat) (dk : Array α), s13 = .int .i64 x ∧ a ≤ x ∧ x - a + kx = i - 1 - a ∧ dk.size = d.size ∧ Hid (dk = upGo a d (x - a)) ∧ Aside (SWK enc k w0 blk off dk wr2))
      case atStart => exact ⟨a, d, rfl, Nat.le_refl _, by omega, rfl, (show Hid _ from by show d = _; rw [Nat.sub_self]; rfl), S1⟩
      case round =>
        clear S1
        obtain ⟨x, dk, rfl, hax, hxk, hdk, HE, S1⟩ := hrel
        by_cases hlt : x < i - 1
        · have hltz : (x : Int) < (i : Int) - 1 := by omega
          go_wp2_with fail
          have ea4 : ((x : Int)).toNat = x := by omega
          have pa4 : (0 : Int) ≤ (x : Int) := by omega
          have ba4 : (x : Int) < (d0.size : Int) := by omega
          have ra4 : IntKind.i64.wrap ((x : Int)) = (x : Int) := by rw [IntKind.wrap_i64]; omega
          have ec4 : ((x : Int) + 1).toNat = x + 1 := by omega
          have pc4 : (0 : Int) ≤ (x : Int) + 1 := by omega
          have bc4 : (x : Int) + 1 < (d0.size : Int) := by omega
          have rc4 : IntKind.i64.wrap ((x : Int) + 1) = (x : Int) + 1 := by rw [IntKind.wrap_i64]; omega
          have S2 : Aside (SWK enc k w0 blk off (swp dk (x) (x + 1)) ((wr.drew.setCells blk (off + (x) * k) (enc dk[x + 1]!)).setCells blk (off + (x + 1) * k) (enc dk[x]!))) := S1.out.swapped R (x) (x + 1) (by omega) (by omega)
          have l4a := S1.out.ld1 R (by omega) P (x) (by omega)
          have l4b := S1.out.ld1 R (by omega) P (x + 1) (by omega)
          have s4a := S1.out.st1 R (by omega) P (x) (by omega) dk[x + 1]!
          have s4b := S1.out.st2 R (by omega) P (x) (x + 1) (by omega) (by omega) dk[x + 1]! dk[x]!
          have n4a : (enc dk[x]!).length = k := R.hk _
          have n4b : (enc dk[x + 1]!).length = k := R.hk _
          generalize enc dk[x]! = cI4 at S2 l4a s4b n4a
          generalize enc dk[x + 1]! = cJ4 at S2 l4b s4a s4b n4b
          clear S1
          go_wp2_with fail
          go_big_region_o
          clear l4a l4b s4a s4b
          generalize (wr.drew.setCells blk (off + (x) * k) cJ4).setCells blk (off + (x + 1) * k) cI4 = w2 at S2 ⊢
          go_wp2
          go_roundg (i - 1 - (x + 1))
          case measure => omega
          case rel =>
            refine ⟨x + 1, swp dk x (x + 1), by go_num, by omega, by omega, by rw [size_swp]; exact hdk, (show Hid _ from ?_), S2⟩
            show _ = _
            have e1 : x + 1 - a = x - a + 1 := by omega
            have e2 : a + (x - a) = x := by omega
            rw [e1, HE.out, upGo, e2]
        · have hltz : ¬ (x : Int) < (i : Int) - 1 := by omega
          go_wp2
          (try simp only [Exit.inBlock, Exit.then])
          refine bodyPost_ret (results_none rfl _ _ _) rfl ?_
          have e1 : x - a = i - 1 - a := by omega
          have hr := upGo_rot a d (i - 1 - a) (by omega)
          have e2 : a + 1 + (i - 1 - a) = i := by omega
          rw [e2, ← e1, ← HE.out] at hr
          refine ⟨rfl, dk, permIn_mono _ _ _ _ _ _ (Nat.le_refl _) (by omega) (by omega) hr.1, ?_, S1.out⟩
          obtain rfl : m = a + 1 := by omega
          exact merge_one HS.out a i b d dk hi1 hj1 H2.out HL.out HR.out hr
end Go.Proofs.Ytalhphclogbpnaa.St
/- symMerge where the right run is of one element. Written by a program of this repo (stgen.py). -/
namespace Go.Proofs.Ytalhphclogbpnaa.St
open Go.Shelf Go.RowKit Go.Lib Go.Sort Go.Proofs
set_option linter.unusedVariables false
set_option linter.unusedSimpArgs false
variable {P : Program} {α : Type} [Inhabited α]
set_option maxHeartbeats 4000000 in
set_option maxRecDepth 1000000 in
theorem symB (L : Lay P) (k : Nat) (aE : ∀ w, (isAgg 34).run P w = .ok true w) (zE : ∀ w, (Go.sizeOf 34).run P w = .ok k w) (enc : α → List Value) (cf : α → α → Int) (g : Nat) (cb : Array Value) (blk off cap : Nat) (d0 : Array α) (w0 : World) (eg : ∀ args w, (callFunc g args).run P w = .ok (.enter g args) w) (hcmp : CmpLays P g cb enc k cf blk off d0.size w0) (hS : SWO (ltOf cf)) (R : RowK enc k w0 blk off d0) (hsz : d0.size < 1000000) (a m b : Nat) (d : Array α) (w : World) (hds : d.size = d0.size) (S : SWK enc k w0 blk off d w) (h1 : a < m) (h2 : m < b) (h3 : b ≤ d.size) (s1 : SortedIn (ltOf cf) a m d) (s2 : SortedIn (ltOf cf) m b d) (hm1 : ¬ m = a + 1) (hn1 : b = m + 1) :
    Calls P 40 #[.slice (some ⟨blk, off, none⟩) d0.size cap, .int .i64 a, .int .i64 m, .int .i64 b, .func (.func g) #[] cb] w fun e w' => e = .returned (.tuple #[]) ∧ ∃ f, PermIn a b d f ∧ SortedIn (ltOf cf) a b f ∧ SWK enc k w0 blk off f w' := by
  have mixed := L.mixed
  have t0 := L.t0; have a0 := L.a0; have z0 := L.z0; have v0 := L.v0
  have t3 := L.t3; have a3 := L.a3; have z3 := L.z3; have v3 := L.v3
  have t4 := L.t4; have a4 := L.a4; have z4 := L.z4; have v4 := L.v4
  have tsl := L.tsl; have asl := L.asl; have zsl := L.zsl; have vsl := L.vsl
  have tfn := L.tfn; have afn := L.afn; have zfn := L.zfn; have vfn := L.vfn
  have tui := L.tui; have aui := L.aui; have zui := L.zui; have vui := L.vui
  have FG := L.symMergeCmpFunc
  have HC : Aside _ := hcmp
  have S0 : Aside (SWK enc k w0 blk off d w) := S
  have HS : Hid (SWO (ltOf cf)) := hS
  have H1 : Hid (SortedIn (ltOf cf) a m d) := s1
  have H2 : Hid (SortedIn (ltOf cf) m b d) := s2
  clear S hcmp s1 s2
  have wa : IntKind.i64.wrap ((m : Int) - (a : Int)) = (m : Int) - (a : Int) := by rw [IntKind.wrap_i64]; omega
  have wb : IntKind.i64.wrap ((b : Int) - (m : Int)) = (b : Int) - (m : Int) := by rw [IntKind.wrap_i64]; omega
  have c1 : ((m : Int) - (a : Int) == 1) = false := beq_eq_false_iff_ne.mpr (by omega)
  have c2 : ¬ (m : Int) - (a : Int) = 1 := by omega
  have c3 : ((b : Int) - (m : Int) == 1) = true := beq_iff_eq.mpr (by omega)
  have c4 : (b : Int) - (m : Int) = 1 := by omega
  clear hn1
  go_enter FG, Try.ntmps40
  go_wp2
  go_loopg [14, 15] (m - a) (fun kx s1 s2 wr => ∃ (i j : Nat), s1 = .int .i64 i ∧ s2 = .int .i64 j ∧ a ≤ i ∧ i ≤ j ∧ j ≤ m ∧ j - i ≤ kx ∧ Hid (∀ h, a ≤ h → h < i → ltOf cf d[m]! d[h]! = false) ∧ Hid (∀ h, j ≤ h → h < m → ltOf cf d[m]! d[h]! = true) ∧ Aside (SWK enc k w0 blk off d wr))
  case atStart => exact ⟨a, m, rfl, rfl, Nat.le_refl _, by omega, Nat.le_refl _, Nat.le_refl _, (show Hid _ from fun h q1 q2 => by omega), (show Hid _ from fun h q1 q2 => by omega), S0⟩
  case round =>
    clear S0
    obtain ⟨i, j, rfl, rfl, hi1, hij, hj1, hkx, HL, HR, S1⟩ := hrel
    by_cases hlt : i < j
    · have hltz : (i : Int) < (j : Int) := by omega
      obtain ⟨h, rs3, hb1, hb2⟩ : ∃ x : Nat, ((i : Int) + (j : Int)) / 2 = (x : Int) ∧ i ≤ x ∧ x < j := ⟨(i + j) / 2, by omega, by omega, by omega⟩
      have rs1 : IntKind.i64.wrap ((i : Int) + (j : Int)) = (i : Int) + (j : Int) := by rw [IntKind.wrap_i64]; omega
      have rs2 : IntKind.u64.wrap ((i : Int) + (j : Int)) = (i : Int) + (j : Int) := by rw [IntKind.wrap_u64]; omega
      cases hq : ltOf cf d[m]! d[h]! with
      | true =>
        have ea5t : ((m : Int)).toNat = m := by omega
        have pa5t : (0 : Int) ≤ (m : Int) := by omega
        have ba5t : (m : Int) < (d0.size : Int) := by omega
        have ra5t : IntKind.i64.wrap ((m : Int)) = (m : Int) := by rw [IntKind.wrap_i64]; omega
        have ec5t : ((h : Int)).toNat = h := by omega
        have pc5t : (0 : Int) ≤ (h : Int) := by omega
        have bc5t : (h : Int) < (d0.size : Int) := by omega
        have rc5t : IntKind.i64.wrap ((h : Int)) = (h : Int) := by rw [IntKind.wrap_i64]; omega
        obtain ⟨x5t, hx5t⟩ : ∃ x, x = d[m]! := ⟨_, rfl⟩
        obtain ⟨y5t, hy5t⟩ : ∃ x, x = d[h]! := ⟨_, rfl⟩
        have l5ta := S1.out.ld R (by omega) P (m) (by omega)
        have l5tb := S1.out.ld R (by omega) P (h) (by omega)
        rw [← hx5t] at l5ta
        rw [← hy5t] at l5tb
        have hc5t := S1.out.cmp HC.out (by omega) x5t y5t
        have hv5t : cf x5t y5t < 0 := by rw [hx5t, hy5t]; exact of_decide_eq_true hq
        have hd5t : decide (cf x5t y5t < 0) = true := decide_eq_true hv5t
        clear hx5t hy5t
        go_wp2_with fail
        go_quiet_grown (first | (go_at_fn g; refine Calls.grown_of (hc5t _ _)))
        have S2 : Aside (SWK enc k w0 blk off d (grow (wr.drewN nq) osq)) := S1.out.grown nq osq
        clear l5ta l5tb hc5t S1
        generalize grow (wr.drewN nq) osq = w2 at S2 ⊢
        clear nq osq
        go_wp2
        go_roundg (h - i)
        case measure => omega
        case rel => exact ⟨i, h, rfl, by go_num, hi1, by omega, by omega, Nat.le_refl _, HL, (show Hid _ from fun q q1 q2 => lt_of_lt_le HS.out hq (sorted_le HS.out H1.out (by omega) q1 q2)), S2⟩
      | false =>
        have ea5f : ((m : Int)).toNat = m := by omega
        have pa5f : (0 : Int) ≤ (m : Int) := by omega
        have ba5f : (m : Int) < (d0.size : Int) := by omega
        have ra5f : IntKind.i64.wrap ((m : Int)) = (m : Int) := by rw [IntKind.wrap_i64]; omega
        have ec5f : ((h : Int)).toNat = h := by omega
        have pc5f : (0 : Int) ≤ (h : Int) := by omega
        have bc5f : (h : Int) < (d0.size : Int) := by omega
        have rc5f : IntKind.i64.wrap ((h : Int)) = (h : Int) := by rw [IntKind.wrap_i64]; omega
        obtain ⟨x5f, hx5f⟩ : ∃ x, x = d[m]! := ⟨_, rfl⟩
        obtain ⟨y5f, hy5f⟩ : ∃ x, x = d[h]! := ⟨_, rfl⟩
        have l5fa := S1.out.ld R (by omega) P (m) (by omega)
        have l5fb := S1.out.ld R (by omega) P (h) (by omega)
        rw [← hx5f] at l5fa
        rw [← hy5f] at l5fb
        have hc5f := S1.out.cmp HC.out (by omega) x5f y5f
        have hv5f : ¬ cf x5f y5f < 0 := by rw [hx5f, hy5f]; exact of_decide_eq_false hq
        have hd5f : decide (cf x5f y5f < 0) = false := decide_eq_false hv5f
        clear hx5f hy5f
        go_wp2_with fail
        go_quiet_grown (first | (go_at_fn g; refine Calls.grown_of (hc5f _ _)))
        have S2 : Aside (SWK enc k w0 blk off d (grow (wr.drewN nq) osq)) := S1.out.grown nq osq
        clear l5fa l5fb hc5f S1
        generalize grow (wr.drewN nq) osq = w2 at S2 ⊢
        clear nq osq
        go_wp2
        go_roundg (j - (h + 1))
        case measure => omega
        case rel => exact ⟨h + 1, j, by go_num, rfl, by omega, by omega, hj1, Nat.le_refl _, (show Hid _ from fun q q1 q2 => le_of_le_le HS.out (sorted_le HS.out H1.out q1 (show q ≤ h by omega) (by omega)) hq), HR, S2⟩
    · have hltz : ¬ (i : Int) < (j : Int) := by omega
      have e : i = j := by omega
      subst e
      clear hlt hij hkx
      go_wp2
      go_loopg [17] (m - i) (fun kx s17 wr2 => ∃ (x : Nat) (dk : Array α), s17 = .int .i64 x ∧ x ≤ m ∧ m - x + kx = m - i ∧ dk.size = d.size ∧ Hid (dk = downGo m d (m - x)) ∧ Aside (SWK enc k w0 blk off dk wr2))
      case atStart => exact ⟨m, d, rfl, Nat.le_refl _, by omega, rfl, (show Hid _ from by show d = _; rw [Nat.sub_self]; rfl), S1⟩
      case round =>
        clear S1
        obtain ⟨x, dk, rfl, hax, hxk, hdk, HE, S1⟩ := hrel
        by_cases hlt : i < x
        · have hltz : (i : Int) < (x : Int) := by omega
          go_wp2_with fail
          have ea6 : ((x : Int)).toNat = x := by omega
          have pa6 : (0 : Int) ≤ (x : Int) := by omega
          have ba6 : (x : Int) < (d0.size : Int) := by omega
          have ra6 : IntKind.i64.wrap ((x : Int)) = (x : Int) := by rw [IntKind.wrap_i64]; omega
          have ec6 : ((x : Int) - 1).toNat = x - 1 := by omega
          have pc6 : (0 : Int) ≤ (x : Int) - 1 := by omega
          have bc6 : (x : Int) - 1 < (d0.size : Int) := by omega
          have rc6 : IntKind.i64.wrap ((x : Int) - 1) = (x : Int) - 1 := by rw [IntKind.wrap_i64]; omega
          have S2 : Aside (SWK enc k w0 blk off (swp dk (x) (x - 1)) ((wr.drew.setCells blk (off + (x) * k) (enc dk[x - 1]!)).setCells blk (off + (x - 1) * k) (enc dk[x]!))) := S1.out.swapped R (x) (x - 1) (by omega) (by omega)
          have l6a := S1.out.ld1 R (by omega) P (x) (by omega)
          have l6b := S1.out.ld1 R (by omega) P (x - 1) (by omega)
          have s6a := S1.out.st1 R (by omega) P (x) (by omega) dk[x - 1]!
          have s6b := S1.out.st2 R (by omega) P (x) (x - 1) (by omega) (by omega) dk[x - 1]! dk[x]!
          have n6a : (enc dk[x]!).length = k := R.hk _
          have n6b : (enc dk[x - 1]!).length = k := R.hk _
          generalize enc dk[x]! = cI6 at S2 l6a s6b n6a
          generalize enc dk[x - 1]! = cJ6 at S2 l6b s6a s6b n6b
          clear S1
          go_wp2_with fail
          go_big_region_o
          clear l6a l6b s6a s6b
          generalize (wr.drew.setCells blk (off + (x) * k) cJ6).setCells blk (off + (x - 1) * k) cI6 = w2 at S2 ⊢
          go_wp2
          go_roundg (x - 1 - i)
          case measure => omega
          case rel =>
            refine ⟨x - 1, swp dk x (x - 1), by go_num, by omega, by omega, by rw [size_swp]; exact hdk, (show Hid _ from ?_), S2⟩
            show _ = _
            have e1 : m - (x - 1) = m - x + 1 := by omega
            have e2 : m - (m - x) = x := by omega
            rw [e1, HE.out, downGo, e2]
        · have hltz : ¬ (i : Int) < (x : Int) := by omega
          go_wp2
          (try simp only [Exit.inBlock, Exit.then])
          refine bodyPost_ret (results_none rfl _ _ _) rfl ?_
          have e1 : m - x = m - i := by omega
          have hr := downGo_rot m d (by omega) (m - i) (by omega)
          have e2 : m - (m - i) = i := by omega
          rw [e2, ← e1, ← HE.out] at hr
          refine ⟨rfl, dk, permIn_mono _ _ _ _ _ _ (by omega) (by omega) (by omega) hr.1, ?_, S1.out⟩
          obtain rfl : b = m + 1 := by omega
          exact merge_last HS.out a i m d dk hi1 hj1 H1.out HL.out HR.out hr
end Go.Proofs.Ytalhphclogbpnaa.St
