/- slices.SortStableFunc's family at elements of k cells, 'cmp' a closure that may lay blocks. Written by a program of this repo (stgen.py), after the shelf's walks of slices.SortFunc's family. -/
import Derived.Test.YtalhphclogbpnaaStPlain
import Derived.Test.YtalhphclogbpnaaProg
import Derived.Shelf.SlSortCmp.KitK
import Derived.Sort.WalkB2
import Derived.Sort.WalkB12
import Derived.Deep.LoopGhost
import Derived.KernelRfl
namespace Go.Proofs.Ytalhphclogbpnaa.St
open Go.Shelf Go.RowKit Go.Lib Go.Sort Go.Proofs
set_option linter.unusedVariables false
set_option linter.unusedSimpArgs false
/-- What is asked of the program: it bears the five bodies; the types' facts. -/
structure Lay (P : Program) : Prop where
  mixed : P.follows .mixedOrders = true
  stableCmpFunc : P.funcs[32]? = some Try.f32
  symMergeCmpFunc : P.funcs[40]? = some Try.f40
  rotateCmpFunc : P.funcs[42]? = some Try.f42
  swapRangeCmpFunc : P.funcs[43]? = some Try.f43
  t0 : P.underlying 0 = some (TypeDesc.tuple #[])
  a0 : ∀ w, (isAgg 0).run P w = .ok false w
  z0 : ∀ w, (Go.sizeOf 0).run P w = .ok 1 w
  v0 : ∀ w, (zeroValue 0).run P w = .ok (Value.tuple #[]) w
  t3 : P.underlying 3 = some (TypeDesc.int IntKind.i64)
  a3 : ∀ w, (isAgg 3).run P w = .ok false w
  z3 : ∀ w, (Go.sizeOf 3).run P w = .ok 1 w
  v3 : ∀ w, (zeroValue 3).run P w = .ok (Value.int IntKind.i64 0) w
  t4 : P.underlying 4 = some (TypeDesc.bool)
  a4 : ∀ w, (isAgg 4).run P w = .ok false w
  z4 : ∀ w, (Go.sizeOf 4).run P w = .ok 1 w
  v4 : ∀ w, (zeroValue 4).run P w = .ok (Value.bool false) w
  tsl : P.underlying 23 = some (TypeDesc.slice 34)
  asl : ∀ w, (isAgg 23).run P w = .ok false w
  zsl : ∀ w, (Go.sizeOf 23).run P w = .ok 1 w
  vsl : ∀ w, (zeroValue 23).run P w = .ok (Value.slice none 0 0) w
  tfn : P.underlying 51 = some (TypeDesc.func #[34, 34] #[3] false)
  afn : ∀ w, (isAgg 51).run P w = .ok false w
  zfn : ∀ w, (Go.sizeOf 51).run P w = .ok 1 w
  vfn : ∀ w, (zeroValue 51).run P w = .ok (Value.nilFunc) w
  tui : P.underlying 70 = some (TypeDesc.int IntKind.u64)
  aui : ∀ w, (isAgg 70).run P w = .ok false w
  zui : ∀ w, (Go.sizeOf 70).run P w = .ok 1 w
  vui : ∀ w, (zeroValue 70).run P w = .ok (Value.int IntKind.u64 0) w
variable {P : Program} {α : Type} [Inhabited α]
set_option maxHeartbeats 4000000 in
set_option maxRecDepth 1000000 in
theorem swapRange (L : Lay P) (k : Nat) (aE : ∀ w, (isAgg 34).run P w = .ok true w) (zE : ∀ w, (Go.sizeOf 34).run P w = .ok k w) (enc : α → List Value) (g : Nat) (cb : Array Value) (blk off cap a b n : Nat) (d0 d : Array α) (w0 w : World) (R : RowK enc k w0 blk off d0) (hs : d0.size = d.size) (S : SWK enc k w0 blk off d w) (h1 : a + n ≤ b) (h2 : b + n ≤ d.size) (hsz : d.size < 1000000) :
    Calls P 43 #[.slice (some ⟨blk, off, none⟩) d.size cap, .int .i64 a, .int .i64 b, .int .i64 n, .func (.func g) #[] cb] w fun e w' => e = .returned (.tuple #[]) ∧ SWK enc k w0 blk off (swapGo a b d n) w' := by
  have mixed := L.mixed
  have t0 := L.t0; have a0 := L.a0; have z0 := L.z0; have v0 := L.v0
  have t3 := L.t3; have a3 := L.a3; have z3 := L.z3; have v3 := L.v3
  have t4 := L.t4; have a4 := L.a4; have z4 := L.z4; have v4 := L.v4
  have tsl := L.tsl; have asl := L.asl; have zsl := L.zsl; have vsl := L.vsl
  have tfn := L.tfn; have afn := L.afn; have zfn := L.zfn; have vfn := L.vfn
  have tui := L.tui; have aui := L.aui; have zui := L.zui; have vui := L.vui
  have FG := L.swapRangeCmpFunc
  have S0 : Aside (SWK enc k w0 blk off d w) := S
  clear S
  go_enter FG, Try.ntmps43
  go_wp2
  go_loopg [10] n (fun kx s10 wr => ∃ (i : Nat) (dk : Array α), s10 = .int .i64 i ∧ i + kx = n ∧ dk.size = d.size ∧ Hid (dk = swapGo a b d i) ∧ Aside (SWK enc k w0 blk off dk wr))
  case atStart => exact ⟨0, d, rfl, by omega, rfl, (show Hid _ from rfl), S0⟩
  case round =>
    clear S0
    obtain ⟨i, dk, rfl, hik, hds, HE, S1⟩ := hrel
    by_cases hlt : i < n
    · have hltz : (i : Int) < (n : Int) := by omega
      go_wp2_with fail
      have ea1 : ((a : Int) + (i : Int)).toNat = a + i := by omega
      have pa1 : (0 : Int) ≤ (a : Int) + (i : Int) := by omega
      have ba1 : (a : Int) + (i : Int) < (d.size : Int) := by omega
      have ra1 : IntKind.i64.wrap ((a : Int) + (i : Int)) = (a : Int) + (i : Int) := by rw [IntKind.wrap_i64]; omega
      have ec1 : ((b : Int) + (i : Int)).toNat = b + i := by omega
      have pc1 : (0 : Int) ≤ (b : Int) + (i : Int) := by omega
      have bc1 : (b : Int) + (i : Int) < (d.size : Int) := by omega
      have rc1 : IntKind.i64.wrap ((b : Int) + (i : Int)) = (b : Int) + (i : Int) := by rw [IntKind.wrap_i64]; omega
      have S2 : Aside (SWK enc k w0 blk off (swp dk (a + i) (b + i)) ((wr.drew.setCells blk (off + (a + i) * k) (enc dk[b + i]!)).setCells blk (off + (b + i) * k) (enc dk[a + i]!))) := S1.out.swapped R (a + i) (b + i) (by omega) (by omega)
      have l1a := S1.out.ld1 R (by omega) P (a + i) (by omega)
      have l1b := S1.out.ld1 R (by omega) P (b + i) (by omega)
      have s1a := S1.out.st1 R (by omega) P (a + i) (by omega) dk[b + i]!
      have s1b := S1.out.st2 R (by omega) P (a + i) (b + i) (by omega) (by omega) dk[b + i]! dk[a + i]!
      have n1a : (enc dk[a + i]!).length = k := R.hk _
      have n1b : (enc dk[b + i]!).length = k := R.hk _
      generalize enc dk[a + i]! = cI1 at S2 l1a s1b n1a
      generalize enc dk[b + i]! = cJ1 at S2 l1b s1a s1b n1b
      clear S1
      go_wp2_with fail
      go_big_region_o
      clear l1a l1b s1a s1b
      generalize (wr.drew.setCells blk (off + (a + i) * k) cJ1).setCells blk (off + (b + i) * k) cI1 = w2 at S2 ⊢
      go_wp2
      go_roundg (n - (i + 1))
      case measure => omega
      case rel => exact ⟨i + 1, swp dk (a + i) (b + i), by go_num, by omega, by rw [size_swp]; exact hds, (show Hid _ from by show _ = _; rw [HE.out]; rfl), S2⟩
    · have hltz : ¬ (i : Int) < (n : Int) := by omega
      go_wp2
      go_end0
      have e : i = n := by omega
      subst e
      rw [← HE.out]
      exact ⟨rfl, S1.out⟩
set_option maxHeartbeats 4000000 in
set_option maxRecDepth 1000000 in
theorem rotate (L : Lay P) (k : Nat) (aE : ∀ w, (isAgg 34).run P w = .ok true w) (zE : ∀ w, (Go.sizeOf 34).run P w = .ok k w) (enc : α → List Value) (g : Nat) (cb : Array Value) (blk off cap a m b : Nat) (d0 d : Array α) (w0 w : World) (R : RowK enc k w0 blk off d0) (hs : d0.size = d.size) (S : SWK enc k w0 blk off d w) (h1 : a < m) (h2 : m < b) (h3 : b ≤ d.size) (hsz : d.size < 1000000) :
    Calls P 42 #[.slice (some ⟨blk, off, none⟩) d.size cap, .int .i64 a, .int .i64 m, .int .i64 b, .func (.func g) #[] cb] w fun e w' => e = .returned (.tuple #[]) ∧ ∃ f, Rot a m b d f ∧ SWK enc k w0 blk off f w' := by
  have mixed := L.mixed
  have t0 := L.t0; have a0 := L.a0; have z0 := L.z0; have v0 := L.v0
  have t3 := L.t3; have a3 := L.a3; have z3 := L.z3; have v3 := L.v3
  have t4 := L.t4; have a4 := L.a4; have z4 := L.z4; have v4 := L.v4
  have tsl := L.tsl; have asl := L.asl; have zsl := L.zsl; have vsl := L.vsl
  have tfn := L.tfn; have afn := L.afn; have zfn := L.zfn; have vfn := L.vfn
  have tui := L.tui; have aui := L.aui; have zui := L.zui; have vui := L.vui
  have FG := L.rotateCmpFunc
  have eS : ∀ args w, (callFunc 43 args).run P w = .ok (.enter 43 args) w := enters_of L.swapRangeCmpFunc (by kernel_rfl) rfl
  have call := fun (x y n : Nat) (dk : Array α) (W : World) (hz : dk.size = d.size) (SK : SWK enc k w0 blk off dk W) (q1 : x + n ≤ y) (q2 : y + n ≤ dk.size) => swapRange L k aE zE enc g cb blk off cap x y n d0 dk w0 W R (by omega) SK q1 q2 (by omega)
  have CALL : Aside _ := call
  clear call
  have S0 : Aside (SWK enc k w0 blk off d w) := S
  clear S
  have w1 : IntKind.i64.wrap ((m : Int) - (a : Int)) = (m : Int) - (a : Int) := by rw [IntKind.wrap_i64]; omega
  have w2 : IntKind.i64.wrap ((b : Int) - (m : Int)) = (b : Int) - (m : Int) := by rw [IntKind.wrap_i64]; omega
  go_enter FG, Try.ntmps42
  go_wp2
  go_loopg [10, 11] (b - a) (fun kx s10 s11 wr => ∃ (i j : Nat) (dk : Array α), s10 = .int .i64 i ∧ s11 = .int .i64 j ∧ 1 ≤ i ∧ 1 ≤ j ∧ i ≤ m - a ∧ j ≤ b - m ∧ i + j ≤ kx ∧ dk.size = d.size ∧ Hid (∀ f, Rot (m - i) m (m + j) dk f → Rot a m b d f) ∧ Aside (SWK enc k w0 blk off dk wr))
  case atStart =>
    refine ⟨m - a, b - m, d, by go_num, by go_num, by omega, by omega, Nat.le_refl _, Nat.le_refl _, by omega, rfl, (show Hid _ from ?_), S0⟩
    intro f hf
    have e1 : m - (m - a) = a := by omega
    have e2 : m + (b - m) = b := by omega
    rw [e1, e2] at hf
    exact hf
  case round =>
    clear S0 w1 w2
    obtain ⟨i, j, dk, rfl, rfl, hi, hj, him, hjm, hkx, hds, HE, S1⟩ := hrel
    have wi : IntKind.i64.wrap ((m : Int) - (i : Int)) = (m : Int) - (i : Int) := by rw [IntKind.wrap_i64]; omega
    have cmi : ((m - i : Nat) : Int) = (m : Int) - (i : Int) := by omega
    by_cases hne : i = j
    · subst hne
      have hcall := CALL.out (m - i) m i dk wr hds S1.out (by omega) (by omega)
      rw [hds, cmi] at hcall
      clear S1
      go_wp2_with (go_at_fn 43; refine hcall.mono ?_; rintro e w3 ⟨rfl, S3⟩)
      go_end0
      exact ⟨rfl, _, HE.out _ (rot_eq _ _ _ _ (by omega) (by omega)), S3⟩
    · have hnez : ((i : Int) == (j : Int)) = false := beq_eq_false_iff_ne.mpr (by omega)
      have hnez2 : ((i : Int) != (j : Int)) = true := bne_iff_ne.mpr (by omega)
      have hnez3 : ¬ (i : Int) = (j : Int) := by omega
      by_cases hgt : j < i
      · have hgtz : (j : Int) < (i : Int) := by omega
        have hcall := CALL.out (m - i) m j dk wr hds S1.out (by omega) (by omega)
        rw [hds, cmi] at hcall
        clear S1
        have wij : IntKind.i64.wrap ((i : Int) - (j : Int)) = (i : Int) - (j : Int) := by rw [IntKind.wrap_i64]; omega
        go_wp2_with (go_at_fn 43; refine hcall.mono ?_; rintro e w3 ⟨rfl, S3⟩)
        go_roundg (i - j + j)
        case measure => omega
        case rel =>
          refine ⟨i - j, j, swapGo (m - i) m dk j, by go_num, rfl, by omega, hj, by omega, hjm, by omega, by rw [swapGo_size]; exact hds, (show Hid _ from ?_), S3⟩
          intro f hf
          have e1 : m - (i - j) = m - i + j := by omega
          rw [e1] at hf
          exact HE.out f (rot_big (m - i) m i j dk f (by omega) hgt (by omega) hf)
      · have hgtz : ¬ (j : Int) < (i : Int) := by omega
        have cmj : ((m + (j - i) : Nat) : Int) = (m : Int) + (j : Int) - (i : Int) := by omega
        have hcall := CALL.out (m - i) (m + (j - i)) i dk wr hds S1.out (by omega) (by omega)
        rw [hds, cmi, cmj] at hcall
        clear S1
        have wmj : IntKind.i64.wrap ((m : Int) + (j : Int)) = (m : Int) + (j : Int) := by rw [IntKind.wrap_i64]; omega
        have wmji : IntKind.i64.wrap ((m : Int) + (j : Int) - (i : Int)) = (m : Int) + (j : Int) - (i : Int) := by rw [IntKind.wrap_i64]; omega
        have wij : IntKind.i64.wrap ((j : Int) - (i : Int)) = (j : Int) - (i : Int) := by rw [IntKind.wrap_i64]; omega
        go_wp2_with (go_at_fn 43; refine hcall.mono ?_; rintro e w3 ⟨rfl, S3⟩)
        go_roundg (i + (j - i))
        case measure => omega
        case rel => exact ⟨i, j - i, swapGo (m - i) (m + (j - i)) dk i, rfl, by go_num, hi, by omega, him, by omega, by omega, by rw [swapGo_size]; exact hds, (show Hid _ from fun f hf => HE.out f (rot_small (m - i) m i j dk f (by omega) (by omega) (by omega) hf)), S3⟩
end Go.Proofs.Ytalhphclogbpnaa.St
