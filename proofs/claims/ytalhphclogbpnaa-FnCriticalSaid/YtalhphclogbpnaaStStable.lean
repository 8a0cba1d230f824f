/- symMerge joined; stableCmpFunc: the row is a sorted permutation. Written by a program of this repo (stgen.py). -/
import Derived.Test.YtalhphclogbpnaaStSymB
import Derived.Test.YtalhphclogbpnaaStSymC
namespace Go.Proofs.Ytalhphclogbpnaa.St
open Go.Shelf Go.RowKit Go.Lib Go.Sort Go.Proofs
set_option linter.unusedVariables false
set_option linter.unusedSimpArgs false
variable {P : Program} {α : Type} [Inhabited α]
theorem symMerge (L : Lay P) (k : Nat) (aE : ∀ w, (isAgg 34).run P w = .ok true w) (zE : ∀ w, (Go.sizeOf 34).run P w = .ok k w) (enc : α → List Value) (cf : α → α → Int) (g : Nat) (cb : Array Value) (blk off cap : Nat) (d0 : Array α) (w0 : World) (eg : ∀ args w, (callFunc g args).run P w = .ok (.enter g args) w) (hcmp : CmpLays P g cb enc k cf blk off d0.size w0) (hS : SWO (ltOf cf)) (R : RowK enc k w0 blk off d0) (hsz : d0.size < 1000000) :
    ∀ (N a m b : Nat) (d : Array α) (w : World), b - a ≤ N → d.size = d0.size → SWK enc k w0 blk off d w → a < m → m < b → b ≤ d.size → SortedIn (ltOf cf) a m d → SortedIn (ltOf cf) m b d →
      Calls P 40 #[.slice (some ⟨blk, off, none⟩) d0.size cap, .int .i64 a, .int .i64 m, .int .i64 b, .func (.func g) #[] cb] w fun e w' => e = .returned (.tuple #[]) ∧ ∃ f, PermIn a b d f ∧ SortedIn (ltOf cf) a b f ∧ SWK enc k w0 blk off f w'
  | 0, a, m, b, d, w, h, _, _, h1, h2, _, _, _ => by omega
  | N + 1, a, m, b, d, w, hN, hds, S, h1, h2, h3, s1, s2 => by
    by_cases hm1 : m = a + 1
    · exact symA L k aE zE enc cf g cb blk off cap d0 w0 eg hcmp hS R hsz a m b d w hds S h1 h2 h3 s1 s2 hm1
    by_cases hn1 : b = m + 1
    · exact symB L k aE zE enc cf g cb blk off cap d0 w0 eg hcmp hS R hsz a m b d w hds S h1 h2 h3 s1 s2 hm1 hn1
    exact symC L k aE zE enc cf g cb blk off cap d0 w0 eg hcmp hS R hsz a m b d w hds S h1 h2 h3 s1 s2 hm1 hn1 N hN (symMerge L k aE zE enc cf g cb blk off cap d0 w0 eg hcmp hS R hsz N)
/-- Blocks of bs from x on are each sorted (what is beyond n is none). -/
def BlkFrom (lt : α → α → Bool) (bs n x : Nat) (d : Array α) : Prop := ∀ q, SortedIn lt (x + q * bs) (min (x + q * bs + bs) n) d
def Done (lt : α → α → Bool) (b2 t : Nat) (d : Array α) : Prop := ∀ q, q < t → SortedIn lt (q * b2) (q * b2 + b2) d
theorem done_step {lt : α → α → Bool} {b2 t x : Nat} {d e : Array α} (hx : x = t * b2) (h : Done lt b2 t d) (hp : PermIn x (x + b2) d e) (hs : SortedIn lt x (x + b2) e) : Done lt b2 (t + 1) e := by
  intro q hq
  by_cases hqt : q = t
  · subst hqt; rw [← hx]; exact hs
  · have h1 : (q + 1) * b2 ≤ t * b2 := Nat.mul_le_mul_right _ (by omega)
    rw [Nat.add_mul, Nat.one_mul] at h1
    exact sorted_out hp (.inl (by omega)) (h q (by omega))
theorem blkFrom_step {lt : α → α → Bool} {bs n x : Nat} {d e : Array α} (h : BlkFrom lt bs n x d) (hp : PermIn x (x + 2 * bs) d e) : BlkFrom lt bs n (x + 2 * bs) e := by
  intro q
  have e1 : x + (q + 2) * bs = x + 2 * bs + q * bs := by rw [Nat.add_mul]; omega
  have h1 := h (q + 2)
  rw [e1] at h1
  exact sorted_out hp (.inr (by omega)) h1
theorem blk_end {lt : α → α → Bool} {b2 n t x : Nat} {d e : Array α} (hx : x = t * b2) (hxn : x ≤ n) (hxb : n < x + b2) (h : Done lt b2 t d) (hp : PermIn x n d e) (hs : SortedIn lt x n e) : BlkFrom lt b2 n 0 e := by
  intro q
  rw [Nat.zero_add]
  by_cases hqt : q < t
  · have h1 : (q + 1) * b2 ≤ t * b2 := Nat.mul_le_mul_right _ (by omega)
    rw [Nat.add_mul, Nat.one_mul] at h1
    rw [Nat.min_eq_left (by omega)]
    exact sorted_out hp (.inl (by omega)) (h q hqt)
  · by_cases hqe : q = t
    · subst hqe
      rw [← hx, Nat.min_eq_right (by omega)]
      exact hs
    · have h1 : (t + 1) * b2 ≤ q * b2 := Nat.mul_le_mul_right _ (by omega)
      rw [Nat.add_mul, Nat.one_mul] at h1
      intro i j hi hij hj
      exact absurd (Nat.lt_of_lt_of_le hj (Nat.min_le_right _ _)) (by omega)
set_option maxHeartbeats 4000000 in
set_option maxRecDepth 1000000 in
theorem stable (L : Lay P) (k : Nat) (aE : ∀ w, (isAgg 34).run P w = .ok true w) (zE : ∀ w, (Go.sizeOf 34).run P w = .ok k w) (enc : α → List Value) (cf : α → α → Int) (g : Nat) (cb : Array Value) (blk off cap : Nat) (d0 : Array α) (w0 : World) (eg : ∀ args w, (callFunc g args).run P w = .ok (.enter g args) w) (hcmp : CmpLays P g cb enc k cf blk off d0.size w0) (hS : SWO (ltOf cf)) (R : RowK enc k w0 blk off d0) (hsz : d0.size < 1000000) (d : Array α) (w : World) (hds : d.size = d0.size) (S : SWK enc k w0 blk off d w)
    (ins : ∀ (a b : Nat) (d : Array α) (w : World), d.size = d0.size → SWK enc k w0 blk off d w → a ≤ b → b ≤ d.size → Calls P 39 #[.slice (some ⟨blk, off, none⟩) d0.size cap, .int .i64 a, .int .i64 b, .func (.func g) #[] cb] w fun e w' => e = .returned (.tuple #[]) ∧ SWK enc k w0 blk off (Sort.insertionSort (ltOf cf) d a b) w')
    (eI : ∀ args w, (callFunc 39 args).run P w = .ok (.enter 39 args) w) :
    Calls P 32 #[.slice (some ⟨blk, off, none⟩) d0.size cap, .int .i64 d0.size, .func (.func g) #[] cb] w fun e w' => e = .returned (.tuple #[]) ∧ ∃ f, PermIn 0 d.size d f ∧ SortedIn (ltOf cf) 0 d.size f ∧ SWK enc k w0 blk off f w' := by
  have mixed := L.mixed
  have t0 := L.t0; have a0 := L.a0; have z0 := L.z0; have v0 := L.v0
  have t3 := L.t3; have a3 := L.a3; have z3 := L.z3; have v3 := L.v3
  have t4 := L.t4; have a4 := L.a4; have z4 := L.z4; have v4 := L.v4
  have tsl := L.tsl; have asl := L.asl; have zsl := L.zsl; have vsl := L.vsl
  have tfn := L.tfn; have afn := L.afn; have zfn := L.zfn; have vfn := L.vfn
  have tui := L.tui; have aui := L.aui; have zui := L.zui; have vui := L.vui
  have FG := L.stableCmpFunc
  have eM : ∀ args w, (callFunc 40 args).run P w = .ok (.enter 40 args) w := enters_of L.symMergeCmpFunc (by kernel_rfl) rfl
  have SM : Aside _ := symMerge L k aE zE enc cf g cb blk off cap d0 w0 eg hcmp hS R hsz
  have INS : Aside _ := ins
  have HI : Hid _ := insertionSort_holds (lt := ltOf cf) hS
  have S0 : Aside (SWK enc k w0 blk off d w) := S
  clear hcmp S ins
  obtain ⟨n, en⟩ : ∃ x, x = d0.size := ⟨_, rfl⟩
  rw [← en] at hds hsz ⊢
  rw [← en] at SM INS
  rw [hds]
  have EN : Hid (n = d0.size) := en
  clear en
  go_enter FG, Try.ntmps32
  go_wp2
  go_loopg [7, 8] n (fun kx s7 s8 wr => ∃ (t x y : Nat) (dk : Array α), s7 = .int .i64 x ∧ s8 = .int .i64 y ∧ Hid (x = t * 20) ∧ Hid (y = x + 20) ∧ x ≤ n ∧ n - x ≤ kx ∧ dk.size = n ∧ Hid (PermIn 0 n d dk) ∧ Hid (Done (ltOf cf) 20 t dk) ∧ Aside (SWK enc k w0 blk off dk wr))
  case atStart => exact ⟨0, 0, 20, d, rfl, rfl, (show Hid _ from rfl), (show Hid _ from rfl), Nat.zero_le _, by omega, hds, (show Hid _ from permIn_refl _ _ _), (show Hid _ from fun q hq => absurd hq (by omega)), S0⟩
  case round =>
    clear S0
    obtain ⟨t, x, y, dk, rfl, rfl, HX, HY, hxn, hkx, hdk, HP, HD, S1⟩ := hrel
    have hy := HY.out
    by_cases hlt : y ≤ n
    · have hltz : (y : Int) ≤ (n : Int) := by omega
      have wy : IntKind.i64.wrap ((y : Int) + 20) = (y : Int) + 20 := by rw [IntKind.wrap_i64]; omega
      have hcall := INS.out x y dk wr hdk S1.out (by omega) (by omega)
      have hins := HI.out dk x y (by omega) (by omega)
      have HINS : Hid _ := hins
      have hsz2 : (Sort.insertionSort (ltOf cf) dk x y).size = n := hins.1.1.trans hdk
      generalize Sort.insertionSort (ltOf cf) dk x y = dj at hcall HINS hsz2
      clear S1 hy hins
      go_wp2_with (go_at_fn 39; refine hcall.mono ?_; rintro e w3 ⟨rfl, s3⟩)
      have S3 : Aside _ := s3
      clear s3
      have hy := HY.out
      have hx := HX.out
      go_roundg (n - y)
      case measure => omega
      case rel =>
        refine ⟨t + 1, y, y + 20, dj, rfl, by go_num, (show Hid _ from ?_), (show Hid _ from rfl), hlt, Nat.le_refl _, hsz2, (show Hid _ from ?_), (show Hid _ from ?_), S3⟩
        · show y = (t + 1) * 20
          omega
        · exact permIn_trans _ _ _ _ _ HP.out (permIn_mono _ _ _ _ _ _ (Nat.zero_le _) hlt (by omega) HINS.out.1)
        · have h2 := HINS.out
          rw [hy] at h2
          exact done_step hx HD.out h2.1 h2.2
    · have hltz : ¬ (y : Int) ≤ (n : Int) := by omega
      have hcall := INS.out x n dk wr hdk S1.out hxn (by omega)
      have hins := HI.out dk x n hxn (by omega)
      have hx := HX.out
      have hsz2 : (Sort.insertionSort (ltOf cf) dk x n).size = n := hins.1.1.trans hdk
      have hblk : BlkFrom (ltOf cf) 20 n 0 (Sort.insertionSort (ltOf cf) dk x n) := blk_end hx hxn (by omega) HD.out hins.1 hins.2
      have hper : PermIn 0 n d (Sort.insertionSort (ltOf cf) dk x n) := permIn_trans _ _ _ _ _ HP.out (permIn_mono _ _ _ _ _ _ (Nat.zero_le _) (Nat.le_refl _) (by omega) hins.1)
      have HBL : Hid _ := hblk
      have HPE : Hid _ := hper
      clear hblk hper hins HD HP S1 hy hx HX HY
      generalize Sort.insertionSort (ltOf cf) dk x n = dj at hcall HBL HPE hsz2
      go_wp2_with (go_at_fn 39; refine hcall.mono ?_; rintro e w3 ⟨rfl, s3⟩)
      have S3 : Aside _ := s3
      clear s3 hcall
      go_loopg [6] n (fun kx s6 wr => ∃ (bs : Nat) (dk : Array α), s6 = .int .i64 bs ∧ 1 ≤ bs ∧ bs ≤ 2 * n + 20 ∧ n - bs ≤ kx ∧ dk.size = n ∧ Hid (PermIn 0 n d dk) ∧ Hid (BlkFrom (ltOf cf) bs n 0 dk) ∧ Aside (SWK enc k w0 blk off dk wr))
      case atStart => exact ⟨20, dj, rfl, by omega, by omega, by omega, hsz2, HPE, HBL, S3⟩
      case round =>
        clear S3 HPE HBL hsz2 hltz hlt hkx hxn hdk
        obtain ⟨bs, dk, rfl, hb1, hb2, hkx, hdk, HP, HB, S1⟩ := hrel
        by_cases hlt : bs < n
        · have hltz : (bs : Int) < (n : Int) := by omega
          have w2 : IntKind.i64.wrap (2 * (bs : Int)) = 2 * (bs : Int) := by rw [IntKind.wrap_i64]; omega
          have w3 : IntKind.i64.wrap ((bs : Int) * 2) = (bs : Int) * 2 := by rw [IntKind.wrap_i64]; omega
          go_wp2
          go_loopg [7, 8] n (fun ky s7 s8 wr2 => ∃ (t x y : Nat) (dj : Array α), s7 = .int .i64 x ∧ s8 = .int .i64 y ∧ Hid (x = t * (2 * bs)) ∧ Hid (y = x + 2 * bs) ∧ x ≤ n ∧ n - x ≤ ky ∧ dj.size = n ∧ Hid (PermIn 0 n d dj) ∧ Hid (Done (ltOf cf) (2 * bs) t dj) ∧ Hid (BlkFrom (ltOf cf) bs n x dj) ∧ Aside (SWK enc k w0 blk off dj wr2))
          case atStart => exact ⟨0, 0, 2 * bs, dk, rfl, by go_num, (show Hid _ from (Nat.zero_mul _).symm), (show Hid _ from (Nat.zero_add _).symm), Nat.zero_le _, by omega, hdk, HP, (show Hid _ from fun q hq => absurd hq (by omega)), HB, S1⟩
          case round =>
            clear S1 HP HB hdk
            obtain ⟨t, x, y, dj, rfl, rfl, HX, HY, hxn, hky, hdj, HP, HD, HB, S1⟩ := hrel
            have hy := HY.out
            have hb0 := HB.out 0
            have hb1' := HB.out 1
            rw [Nat.zero_mul, Nat.add_zero] at hb0
            rw [Nat.one_mul] at hb1'
            have wxb : IntKind.i64.wrap ((x : Int) + (bs : Int)) = (x : Int) + (bs : Int) := by rw [IntKind.wrap_i64]; omega
            have cxb : ((x + bs : Nat) : Int) = (x : Int) + (bs : Int) := by omega
            by_cases hle : y ≤ n
            · have hlez : (y : Int) ≤ (n : Int) := by omega
              have wyb : IntKind.i64.wrap ((y : Int) + 2 * (bs : Int)) = (y : Int) + 2 * (bs : Int) := by rw [IntKind.wrap_i64]; omega
              rw [Nat.min_eq_left (by omega)] at hb0 hb1'
              rw [show x + bs + bs = y by omega] at hb1'
              have hcall := SM.out n x (x + bs) y dj wr (by omega) hdj S1.out (by omega) (by omega) (by omega) hb0 hb1'
              rw [cxb] at hcall
              clear S1 hy hb0 hb1' cxb
              go_wp2_with (go_at_fn 40; refine hcall.mono ?_; rintro e w4 ⟨rfl, f, pf, sf, s4⟩)
              have S4 : Aside _ := s4
              have PF : Hid _ := pf
              have SF : Hid _ := sf
              have hfz : f.size = n := pf.1.trans hdj
              clear s4 pf sf hcall
              have hy := HY.out
              have hx := HX.out
              go_roundg (n - y)
              case measure => omega
              case rel =>
                refine ⟨t + 1, y, y + 2 * bs, f, rfl, by go_num, (show Hid _ from ?_), (show Hid _ from rfl), hle, Nat.le_refl _, hfz, (show Hid _ from ?_), (show Hid _ from ?_), (show Hid _ from ?_), S4⟩
                · show y = (t + 1) * (2 * bs)
                  rw [Nat.add_mul, Nat.one_mul, ← hx]
                  exact hy
                · exact permIn_trans _ _ _ _ _ HP.out (permIn_mono _ _ _ _ _ _ (Nat.zero_le _) hle (by omega) PF.out)
                · have h2 := PF.out
                  have h3 := SF.out
                  rw [hy] at h2 h3
                  exact done_step hx HD.out h2 h3
                · have h2 := PF.out
                  rw [hy] at h2 ⊢
                  exact blkFrom_step HB.out h2
            · have hlez : ¬ (y : Int) ≤ (n : Int) := by omega
              by_cases hm : x + bs < n
              · have hmz : (x : Int) + (bs : Int) < (n : Int) := by omega
                rw [Nat.min_eq_left (by omega)] at hb0
                rw [Nat.min_eq_right (by omega)] at hb1'
                have hcall := SM.out n x (x + bs) n dj wr (by omega) hdj S1.out (by omega) hm (by omega) hb0 hb1'
                rw [cxb] at hcall
                clear S1 hy hb0 hb1' cxb
                go_wp2_with (go_at_fn 40; refine hcall.mono ?_; rintro e w4 ⟨rfl, f, pf, sf, s4⟩)
                have S4 : Aside _ := s4
                have PF : Hid _ := pf
                have SF : Hid _ := sf
                have hfz : f.size = n := pf.1.trans hdj
                clear s4 pf sf hcall
                have hy := HY.out
                have hx := HX.out
                go_roundg (n - bs * 2)
                case measure => omega
                case rel =>
                  refine ⟨bs * 2, f, by go_num, by omega, by omega, by omega, hfz, (show Hid _ from ?_), (show Hid _ from ?_), S4⟩
                  · exact permIn_trans _ _ _ _ _ HP.out (permIn_mono _ _ _ _ _ _ (Nat.zero_le _) (Nat.le_refl _) (by omega) PF.out)
                  · rw [Nat.mul_comm bs 2]
                    exact blk_end hx hxn (by omega) HD.out PF.out SF.out
              · have hmz : ¬ (x : Int) + (bs : Int) < (n : Int) := by omega
                rw [Nat.min_eq_right (by omega)] at hb0
                have hx := HX.out
                have hfin : BlkFrom (ltOf cf) (2 * bs) n 0 dj := blk_end hx hxn (by omega) HD.out (permIn_refl _ _ _) hb0
                have HFIN : Hid _ := hfin
                clear hfin hb0 hb1' hx hy HX HY
                go_wp2
                go_roundg (n - bs * 2)
                case measure => omega
                case rel => exact ⟨bs * 2, dj, by go_num, by omega, by omega, by omega, hdj, HP, (show Hid _ from Nat.mul_comm 2 bs ▸ HFIN.out), S1⟩
        · have hltz : ¬ (bs : Int) < (n : Int) := by omega
          go_wp2
          go_end0
          have h0 := HB.out 0
          rw [Nat.zero_mul, Nat.zero_add, Nat.min_eq_right (by omega)] at h0
          exact ⟨rfl, dk, HP.out, h0, S1.out⟩
end Go.Proofs.Ytalhphclogbpnaa.St
