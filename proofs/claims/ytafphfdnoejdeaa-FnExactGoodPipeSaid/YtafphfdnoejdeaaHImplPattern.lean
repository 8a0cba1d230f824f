/- The program's GoodPattern: what it computes, as the printed functions want their callees. -/
import Derived.Test.YtafphfdnoejdeaaPFnExactGoodPipex2
import Derived.Test.YtafphfdnoejdeaaPat
import Derived.WalkKit
import Derived.KernelRfl
import Derived.Deep.LoopGhost
import Derived.StillTailTactics
import Derived.Shelf.Abstract
import Derived.Lib.Bytealg
import Derived.Shelf.Strings.Search1
namespace Go.Proofs.Ytafphfdnoejdeaa.PFnExactGoodPipe
open Go.RowKit Go.Shelf Go.Proofs.YtafphfdnoejdeaaW.PrintWords Go.Proofs.YtafphfdnoejdeaaW.PrintLast Go.Proofs.YtafphfdnoejdeaaW.PrintMore Go.Proofs.Ytafphfdnoejdeaa.Pat
set_option linter.unusedVariables false
set_option linter.unusedSimpArgs false
def impl_GoodPattern.f (k : Nat) (a0 : ByteArray) : Option Bool := (impl_printed.f k a0 100).bind fun t => if t = true then (if a0.size ≤ 100 then some (okP a0) else none) else some false
theorem impl_GoodPattern.mono : ∀ a0 k, LeO (impl_GoodPattern.f k a0) (impl_GoodPattern.f (k + 1) a0) := fun a0 k => LeO.bind (impl_printed.mono a0 100 k) (fun _ => LeO.refl _)
theorem infoPatP : (Try.prog.info? 94).map (fun i => (i.zero, i.size, i.bytes)) = some (some (.agg #[.int .u8 0, .bool false, .bool false]), 3, 3) := by kernel_rfl
theorem infoPatLP : (Try.prog.info? 95).map (fun i => (i.zero, i.size, i.bytes)) = some (some (.slice none 0 0), 1, 24) := by kernel_rfl
structure SPc where
  f0 : Int
  f1 : Bool
  f2 : Bool
abbrev kPc : Kd SPc := Kd.iso (Kd.pair (Kd.int .u8) (Kd.pair Kd.bool Kd.bool)) (fun x : SPc => (x.f0, x.f1, x.f2))
theorem kPc_mkM (w : World) (base : Nat) (ok : Nat → Prop) (x : SPc) : kPc.M w base ok x [.int .u8 x.f0, .bool x.f1, .bool x.f2] := ⟨[.int .u8 x.f0], [.bool x.f1, .bool x.f2], rfl, rfl, ⟨[.bool x.f1], [.bool x.f2], rfl, rfl, rfl⟩⟩
/-- The variable 'out': a row of rows of which the last is the call's own. -/
structure EnvP (w0 : World) (gO n : Nat) (w : World) : Prop where
  low : Below w0.heap.size w0 w
  new : w0.heap.size ≤ gO
  o : ∃ (g m c : Nat) (lo : List SV) (vl : SV) (ll : List SPc), w.heap[gO]? = some (.cells #[.slice (some ⟨g, 0, none⟩) (m + 1) c] 80 (0, 0)) ∧ lo.length = m ∧ kV.R 95 w w0.heap.size (fun _ => True) (.slice (some ⟨g, 0, none⟩) (m + 1) c) (lo ++ [vl]) ∧ kPc.R 94 w w0.heap.size (fun _ => True) vl.1 ll ∧ m ≤ n ∧ ll.length ≤ n
theorem EnvP.below {w0 : World} {gO n : Nat} {w w1 : World} (h : EnvP w0 gO n w) (hb : Below w.heap.size w w1) : EnvP w0 gO n w1 := by
  obtain ⟨low, new, g, m, c, lo, vl, ll, h1, h2, h3, h4, h5, h6⟩ := h
  exact ⟨below_step low hb, new, g, m, c, lo, vl, ll, blk_below h1 hb, h2, Kd.R_below h3 hb, Kd.R_below h4 hb, h5, h6⟩
theorem EnvP.mono {w0 : World} {gO n n' : Nat} {w : World} (h : EnvP w0 gO n w) (hn : n ≤ n') : EnvP w0 gO n' w := by
  obtain ⟨low, new, g, m, c, lo, vl, ll, h1, h2, h3, h4, h5, h6⟩ := h
  exact ⟨low, new, g, m, c, lo, vl, ll, h1, h2, h3, h4, Nat.le_trans h5 hn, Nat.le_trans h6 hn⟩
theorem EnvP.undrew {w0 : World} {gO n nd : Nat} {w : World} (h : EnvP (w0.drewN nd) gO n w) : EnvP w0 gO n w := by
  obtain ⟨low, new, g, m, c, lo, vl, ll, h1, h2, h3, h4, h5, h6⟩ := h
  exact ⟨below_step (pw_below_drewN (Below.refl _ _) nd) low, new, g, m, c, lo, vl, ll, h1, h2, h3, h4, h5, h6⟩
theorem set_last {m : Nat} (lo : List SV) (a b : SV) (h : lo.length = m) : (lo ++ [a]).set m b = lo ++ [b] := by
  subst h; simp
theorem last_rd {m : Nat} (d : SV) (lo : List SV) (vl : SV) (h : lo.length = m) : rdOf d (lo ++ [vl]) (m : Int) = vl := by
  show (lo ++ [vl]).getD _ _ = vl
  rw [Int.toNat_natCast, ← h, List.getD_eq_getElem?_getD]; simp
set_option maxHeartbeats 1000000 in
set_option maxRecDepth 100000 in
theorem patPut_of {w0 : World} {gO n : Nat} {w : World} (h : EnvP w0 gO n w) (hn : n ≤ 1000) (x : SPc) :
    Calls Try.prog 66 #[.agg #[.int .u8 x.f0, .bool x.f1, .bool x.f2], .pointer (some ⟨gO, 0, none⟩)] w fun e w' => e = .returned (.tuple #[]) ∧ EnvP w0 gO (n + 1) w' := by
  obtain ⟨low, new, g, m, c, lo, ⟨vlv, hvl⟩, ll, h1, h2, h3, h4, h5, h6⟩ := h
  have HNE := Aside0.mk (show some w.heap.size ≠ vlv.ownBlock from fun he => by have := Kd.R_lt h4 _ he.symm; omega)
  have HL := Aside0.mk hn
  have H1 := Aside0.mk h1; have H2 := Aside0.mk h2; have H3 := Aside0.mk h3; have H4 := Aside0.mk h4; have H5 := Aside0.mk h5; have H6 := Aside0.mk h6; have HB := Aside0.mk low; have HG := Aside0.mk new
  clear h1 h2 h3 h4 h5 h6 low new hn
  dsimp only at H4
  go_enter Try.func66, Try.ntmps66
  go_upto_region 1 with (fail)
  have HX := Aside0.mk (blk_drew (blk_new w (.cells #[.int .u8 x.f0, .bool x.f1, .bool x.f2] 94)))
  have hb := below_drew1 (below_alloc (Below.refl w.heap.size w) (.cells #[.int .u8 x.f0, .bool x.f1, .bool x.f2] 94))
  replace H1 := Aside0.mk (blk_below H1.out hb)
  replace H3 := Aside0.mk (Kd.R_below H3.out hb)
  replace H4 := Aside0.mk (Kd.R_below H4.out hb)
  replace HB := Aside0.mk (below_step HB.out hb)
  clear hb
  generalize w.alloc (.cells #[.int .u8 x.f0, .bool x.f1, .bool x.f2] 94) = W1 at HX H1 H3 H4 HB ⊢
  generalize w.heap.size = gX at HX HNE ⊢
  have hcell := Kd.R_celln (⟨.slice none 0 0, slice_one _ _ _⟩ : SV) H3.out (m : Int) (by omega) (by omega)
  rw [last_rd _ _ _ H2.out, Int.toNat_natCast] at hcell
  obtain ⟨hc, hf⟩ := hcell
  have hO : W1.drew.cell? ⟨gO, 0, none⟩ = some (.slice (some ⟨g, 0, none⟩) (m + 1) c) := (blk_cell H1.out 0).trans rfl
  have hx0 : W1.drew.cell? ⟨gX, 0, none⟩ = some (.int .u8 x.f0) := (blk_cell HX.out 0).trans rfl
  have hx1 : W1.drew.cell? ⟨gX, 1, none⟩ = some (.bool x.f1) := (blk_cell HX.out 1).trans rfl
  have hx2 : W1.drew.cell? ⟨gX, 2, none⟩ = some (.bool x.f2) := (blk_cell HX.out 2).trans rfl
  have hwm : wrap64 (m : Int) = (m : Int) := wrap_le _ (by omega) (by have := H5.out; have := HL.out; omega)
  have hm1 : (m : Int) < (m : Int) + 1 := by omega
  clear hf
  dsimp only at hc
  refine start_ (n := 15) (S := fun w' => w'.cell? ⟨gO, 0, none⟩ = some (.slice (some ⟨g, 0, none⟩) (m + 1) c) ∧ w'.cell? ⟨g, m, none⟩ = some vlv ∧ w'.cell? ⟨gX, 0, none⟩ = some (.int .u8 x.f0) ∧ w'.cell? ⟨gX, 1, none⟩ = some (.bool x.f1) ∧ w'.cell? ⟨gX, 2, none⟩ = some (.bool x.f2)) (ds := [14]) #[false,false,false,false,false,false,false,false,false,false,false,false,false,false,false] (by kernel_rfl) rfl rfl (⟨hO, hc, hx0, hx1, hx2⟩) (fun hHeld => ?_)
  generalize W1.drew = w2 at hHeld HX H1 H3 H4 HB ⊢
  refine take_ (i := 0) (N := (some 3)) (v := ?_) (a' := ?_) #[true,false,false,false,false,false,false,false,false,false,false,false,false,false,false] rfl rfl (by kernel_rfl) (fun _ _ _ h => h) (Or.inl ⟨by rfl, ?_⟩) hHeld ?_ ?_
  rotate_left
  · rintro w' ⟨s0, s1, s2, s3, s4⟩
    go_simp
    with_reducible rfl
  rotate_left
  · simp only [Act.put, List.setIfInBounds_toArray, List.set_cons_zero, List.set_cons_succ, i64_w, i32_w]
    rfl
  refine take_ (i := 1) (N := (some 4)) (v := ?_) (a' := ?_) #[true,true,false,false,false,false,false,false,false,false,false,false,false,false,false] rfl rfl (by kernel_rfl) (fun _ _ _ h => h) (Or.inl ⟨by rfl, ?_⟩) hHeld ?_ ?_
  rotate_left
  · rintro w' ⟨s0, s1, s2, s3, s4⟩
    go_simp
    with_reducible rfl
  rotate_left
  · simp only [Act.put, List.setIfInBounds_toArray, List.set_cons_zero, List.set_cons_succ, i64_w, i32_w]
    rfl
  refine pure_ (i := 2) (N := (some 5)) (v := ?_) (a' := ?_) #[true,true,true,false,false,false,false,false,false,false,false,false,false,false,false] rfl rfl (by kernel_rfl) (fun _ _ _ h => h) (Or.inl ⟨by rfl, ?_⟩) ?_ ?_
  rotate_left
  · intro w'
    go_simp
    with_reducible rfl
  rotate_left
  · simp only [Act.put, List.setIfInBounds_toArray, List.set_cons_zero, List.set_cons_succ, i64_w, i32_w]
    rfl
  refine pure_ (i := 3) (N := (some 6)) (v := ?_) (a' := ?_) #[true,true,true,true,false,false,false,false,false,false,false,false,false,false,false] rfl rfl (by kernel_rfl) (fun _ _ _ h => h) (Or.inl ⟨by rfl, ?_⟩) ?_ ?_
  rotate_left
  · intro w'
    go_simp
    with_reducible rfl
  rotate_left
  · simp only [Act.put, List.setIfInBounds_toArray, List.set_cons_zero, List.set_cons_succ, i64_w, i32_w]
    rfl
  refine take_ (i := 4) (N := (some 7)) (v := ?_) (a' := ?_) #[true,true,true,true,true,false,false,false,false,false,false,false,false,false,false] rfl rfl (by kernel_rfl) (fun _ _ _ h => h) (Or.inl ⟨by rfl, ?_⟩) hHeld ?_ ?_
  rotate_left
  · rintro w' ⟨s0, s1, s2, s3, s4⟩
    go_simp
    with_reducible rfl
  rotate_left
  · simp only [Act.put, List.setIfInBounds_toArray, List.set_cons_zero, List.set_cons_succ, i64_w, i32_w]
    rfl
  refine take_ (i := 5) (N := (some 8)) (v := ?_) (a' := ?_) #[true,true,true,true,true,true,false,false,false,false,false,false,false,false,false] rfl rfl (by kernel_rfl) (fun _ _ _ h => h) (Or.inl ⟨by rfl, ?_⟩) hHeld ?_ ?_
  rotate_left
  · rintro w' ⟨s0, s1, s2, s3, s4⟩
    go_simp
    with_reducible rfl
  rotate_left
  · simp only [Act.put, List.setIfInBounds_toArray, List.set_cons_zero, List.set_cons_succ, i64_w, i32_w]
    rfl
  refine pure_ (i := 6) (N := (some 9)) (v := ?_) (a' := ?_) #[true,true,true,true,true,true,true,false,false,false,false,false,false,false,false] rfl rfl (by kernel_rfl) (fun _ _ _ h => h) (Or.inl ⟨by rfl, ?_⟩) ?_ ?_
  rotate_left
  · intro w'
    go_simp
    with_reducible rfl
  rotate_left
  · simp only [Act.put, List.setIfInBounds_toArray, List.set_cons_zero, List.set_cons_succ, i64_w, i32_w]
    rfl
  refine pure_ (i := 7) (N := (some 10)) (v := ?_) (a' := ?_) #[true,true,true,true,true,true,true,true,false,false,false,false,false,false,false] rfl rfl (by kernel_rfl) (fun _ _ _ h => h) (Or.inl ⟨by rfl, ?_⟩) ?_ ?_
  rotate_left
  · intro w'
    go_simp
    with_reducible rfl
  rotate_left
  · simp only [Act.put, List.setIfInBounds_toArray, List.set_cons_zero, List.set_cons_succ, i64_w, i32_w]
    rfl
  refine pure_ (i := 8) (N := (some 11)) (v := ?_) (a' := ?_) #[true,true,true,true,true,true,true,true,true,false,false,false,false,false,false] rfl rfl (by kernel_rfl) (fun _ _ _ h => h) (Or.inl ⟨by rfl, ?_⟩) ?_ ?_
  rotate_left
  · intro w'
    go_simp
    with_reducible rfl
  rotate_left
  · simp only [Act.put, List.setIfInBounds_toArray, List.set_cons_zero, List.set_cons_succ, i64_w, i32_w]
    rfl
  refine take_ (i := 9) (N := (some 12)) (v := ?_) (a' := ?_) #[true,true,true,true,true,true,true,true,true,true,false,false,false,false,false] rfl rfl (by kernel_rfl) (fun _ _ _ h => h) (Or.inl ⟨by rfl, ?_⟩) hHeld ?_ ?_
  rotate_left
  · rintro w' ⟨s0, s1, s2, s3, s4⟩
    go_simp
    with_reducible rfl
  rotate_left
  · simp only [Act.put, List.setIfInBounds_toArray, List.set_cons_zero, List.set_cons_succ, i64_w, i32_w]
    rfl
  refine take_ (i := 10) (N := (some 13)) (v := ?_) (a' := ?_) #[true,true,true,true,true,true,true,true,true,true,true,false,false,false,false] rfl rfl (by kernel_rfl) (fun _ _ _ h => h) (Or.inl ⟨by rfl, ?_⟩) hHeld ?_ ?_
  rotate_left
  · rintro w' ⟨s0, s1, s2, s3, s4⟩
    go_simp
    with_reducible rfl
  rotate_left
  · simp only [Act.put, List.setIfInBounds_toArray, List.set_cons_zero, List.set_cons_succ, i64_w, i32_w]
    rfl
  refine one_ (i := 11) (N := (some 14)) #[true,true,true,true,true,true,true,true,true,true,true,true,false,false,false] rfl rfl (by kernel_rfl) (by decide) (fun K hK => ?_)
  refine value_ (w1 := ?_) (v := ?_) (by rfl) rfl ?_ ?_
  rotate_left 2
  · go_simp
    constructor
    · rfl
    · rfl
  refine hK.out _ _ (have q := hHeld; ⟨pw_cell_below (below_alloc (Below.refl _ _) _) q.1, pw_cell_below (below_alloc (Below.refl _ _) _) q.2.1, pw_cell_below (below_alloc (Below.refl _ _) _) q.2.2.1, pw_cell_below (below_alloc (Below.refl _ _) _) q.2.2.2.1, pw_cell_below (below_alloc (Below.refl _ _) _) q.2.2.2.2⟩) (fun hHeld2 => ?_)
  clear hK K hHeld
  have hHeld := hHeld2
  clear hHeld2
  refine norm_ (a' := ?_) ?_ ?_
  rotate_left
  · show Act.put _ (some 14) _ = _
    simp only [Act.put, List.setIfInBounds_toArray, List.set_cons_zero, List.set_cons_succ, i64_w, i32_w]
    rfl
  refine one_ (i := 12) (N := (some 15)) #[true,true,true,true,true,true,true,true,true,true,true,true,true,false,false] rfl rfl (by kernel_rfl) (by decide) (fun K hK => ?_)
  refine Kd.R_append_step kPc (w0 := w0) w0.heap.size (by rfl) (.tmp 12) (.tmp 14) 95 94 (.agg #[.int .u8 0, .bool false, .bool false]) 3 rfl Try.underlying95 infoPatP rfl (by decide) (by omega) vlv ll x [.int .u8 x.f0, .bool x.f1, .bool x.f2] (fun _ => True) (fun _ => False) (by rfl) (by first | (go_simp; done) | (go_simp; rfl)) ?aP (fun _ hk => hk.elim) ?aF ?aO ?aB ?aS ?aL ?_
  (case aP => exact kPc_mkM _ _ _ x); (case aB => exact HB.out); (case aF => exact fun _ _ => trivial); (case aO => exact H4.out); (case aS => exact below_size HB.out); (case aL => have := H6.out; have := HL.out; omega)
  intro v1 w4 ho hb hg hat
  obtain ⟨A1, c1, rfl⟩ := Kd.R_slice ho
  generalize hlen : (ll ++ [x]).length = q at *
  have HLEN := Aside0.mk hlen
  clear hlen
  have K1 := Aside0.mk (blk_grown H1.out hg (Kd.R_ne H4.out H1.out (by decide)))
  have K3 := Aside0.mk (Kd.R_over H3.out H4.out (by decide) hg)
  have K4 := Aside0.mk ho
  have KB := Aside0.mk hb
  have KX := Aside0.mk (blk_grown HX.out hg HNE.out)
  have hcell := Kd.R_celln (⟨.slice none 0 0, slice_one _ _ _⟩ : SV) K3.out (m : Int) (by omega) (by omega)
  rw [last_rd _ _ _ H2.out, Int.toNat_natCast] at hcell
  obtain ⟨hc, hf⟩ := hcell
  dsimp only at hc
  clear H1 H3 H4 HB HX HNE ho hb hg hat
  refine hK.out _ _ (⟨(blk_cell K1.out 0).trans rfl, hc, (blk_cell KX.out 0).trans rfl, (blk_cell KX.out 1).trans rfl, (blk_cell KX.out 2).trans rfl⟩) (fun hHeld2 => ?_)
  clear hK K hHeld
  have hHeld := hHeld2
  clear hHeld2
  refine norm_ (a' := ?_) ?_ ?_
  rotate_left
  · show Act.put _ (some 15) _ = _
    simp only [Act.put, List.setIfInBounds_toArray, List.set_cons_zero, List.set_cons_succ, i64_w, i32_w]
    rfl
  refine pure_ (i := 13) (N := (some 16)) (v := ?_) (a' := ?_) #[true,true,true,true,true,true,true,true,true,true,true,true,true,true,false] rfl rfl (by kernel_rfl) (fun _ _ _ h => h) (Or.inl ⟨by rfl, ?_⟩) ?_ ?_
  rotate_left
  · intro w'
    go_simp
    with_reducible rfl
  rotate_left
  · simp only [Act.put, List.setIfInBounds_toArray, List.set_cons_zero, List.set_cons_succ, i64_w, i32_w]
    rfl
  refine last_ (i := 14) (N := none) #[true,true,true,true,true,true,true,true,true,true,true,true,true,true,true] rfl rfl (by kernel_rfl) (by decide) (fun K hK => ?_)
  refine skip_ (w1 := ?_) (by rfl) rfl ?_ ?_
  rotate_left
  · go_simp
    rfl
  refine hK.out _ _ ?_
  clear hK K
  refine done_ (by kernel_rfl) ?_
  try go_wp2
  first | go_end0 | ((try simp only [Exit.inBlock, Exit.then]); refine bodyPost_ret (results_none rfl _ _ _) rfl ?_)
  have h3 := Kd.R_putn K3.out (m : Int) (⟨.slice A1 q c1, slice_one _ _ _⟩ : SV)
  rw [Int.toNat_natCast, set_last _ _ _ H2.out] at h3
  obtain ⟨cells, hg76⟩ := Kd.R_typed K3.out g rfl
  refine ⟨rfl, below_set KB.out (Kd.R_base K3.out g rfl), HG.out, g, m, c, lo, ⟨.slice A1 q c1, slice_one _ _ _⟩, ll ++ [x], blk_far K1.out (p := ⟨g, m, none⟩) ?_ _, H2.out, h3, Kd.R_set K4.out hg76 (by decide) m _, by have := H5.out; omega, by have := H6.out; simp; omega⟩
  intro he
  have he : gO = g := he
  subst he
  have := K1.out
  rw [hg76] at this
  injection this with this
  injection this with _ this
  exact absurd this (by decide)
set_option maxHeartbeats 1000000 in
set_option maxRecDepth 100000 in
theorem patIdx0_of (s : ByteArray) (c : Int) (w : World) :
    Calls Try.prog 72 #[.string s, .int .u8 c] w fun e w' => e = .returned (.int .i64 (Lib.indexByte s.data.toList c.toNat.toUInt8)) ∧ w' = w := by
  go_enter Try.func72, Try.ntmps72
  go_wp2
  rw [run_callFunc_extern Try.func73 (by kernel_rfl) (by kernel_rfl) (by kernel_rfl) (e := Extern.BytealgIndexByte.indexByte) (by kernel_rfl), Lib.run_indexByteString]
  simp only [Result.andThen]
  rw [Oper.upon_value]
  go_wp2
  go_ret
  exact ⟨rfl, rfl⟩
theorem patIdx_lt (c : Int) (h0 : 0 ≤ c) (h1 : c ≤ 255) : decide (Lib.indexByte [42, 63, 124, 92] c.toNat.toUInt8 < 0) = !decide (c = 42 ∨ c = 63 ∨ c = 124 ∨ c = 92) := by
  obtain ⟨n, rfl⟩ := Int.eq_ofNat_of_zero_le h0
  have h2 : n < 256 := by omega
  have key : ∀ n : Fin 256, decide (Lib.indexByte [42, 63, 124, 92] ((n.val : Int)).toNat.toUInt8 < 0) = !decide ((n.val : Int) = 42 ∨ (n.val : Int) = 63 ∨ (n.val : Int) = 124 ∨ (n.val : Int) = 92) := by decide +kernel
  exact key ⟨n, h2⟩
set_option maxHeartbeats 1000000 in
set_option maxRecDepth 100000 in
theorem patIdx_of (c : Int) (h0 : 0 ≤ c) (h1 : c ≤ 255) (b : Bool) (hb : decide (c = 42 ∨ c = 63 ∨ c = 124 ∨ c = 92) = b) (w : World) :
    Calls Try.prog 67 #[.string ⟨#[42, 63, 124, 92]⟩, .int .u8 c] w fun e w' => (∃ r : Int, decide (r < 0) = !b ∧ e = .returned (.int .i64 r)) ∧ w = w' := by
  have HQ := Aside0.mk (fun W => patIdx0_of ⟨#[42, 63, 124, 92]⟩ c W)
  have HV := Aside0.mk (show decide (Lib.indexByte (⟨#[42, 63, 124, 92]⟩ : ByteArray).data.toList c.toNat.toUInt8 < 0) = !b by rw [← hb]; exact patIdx_lt c h0 h1)
  clear h0 h1 hb
  go_enter Try.func67, Try.ntmps67
  go_wp2_with (go_at_call 72; refine (HQ.out _).mono ?_; rintro e w' ⟨rfl, rfl⟩)
  go_ret
  exact ⟨⟨_, HV.out, rfl⟩, rfl⟩
theorem envP_new (w : World) (W : World) (hW : W = ((w.alloc (.cells #[.slice none 0 0] 95)).alloc (.cells #[.slice (some ⟨w.heap.size, 0, none⟩) 1 1] 80))) : EnvP w (w.heap.size + 1) 1 W := by
  subst hW
  have sz : ∀ (w : World) (o : Obj), (w.alloc o).heap.size = w.heap.size + 1 := fun w o => by first | rfl | (rw [World.alloc_eq]; exact Array.size_push _) | simp
  have hb : Below w.heap.size w ((w.alloc (.cells #[.slice none 0 0] 95)).alloc (.cells #[.slice (some ⟨w.heap.size, 0, none⟩) 1 1] 80)) := below_alloc (below_alloc (Below.refl _ _) _) _
  have b1 := blk_new (w.alloc (.cells #[.slice none 0 0] 95)) (.cells #[.slice (some ⟨w.heap.size, 0, none⟩) 1 1] 80)
  rw [sz] at b1
  have ho := World.ownsRow_lit (base := w.heap.size) (e := 95) (size := 1) w #[.slice none 0 0] 1 (Nat.le_refl _) (by unfold maxLen; omega) rfl
  have hR : kV.R 95 (w.alloc (.cells #[.slice none 0 0] 95)) w.heap.size (fun _ => True) (.slice (some ⟨w.heap.size, 0, none⟩) 1 1) ([] ++ [(⟨.slice none 0 0, slice_one _ _ _⟩ : SV)]) := Kd.R_of_own ho (fun _ _ => trivial)
  exact ⟨hb, by omega, w.heap.size, 0, 1, [], ⟨.slice none 0 0, slice_one _ _ _⟩, [], b1, rfl, Kd.R_alloc hR _, Kd.R_nil _ _ _ _ _, by omega, by simp⟩
set_option maxHeartbeats 4000000 in
set_option maxRecDepth 100000 in
theorem implAlts_odd (p : ByteArray) (w : World) (hpr : ∀ W : World, Calls Try.prog 38 #[.string p, .int .i64 100] W fun e W' => e = .returned (.bool false) ∧ Drawn0 W W') :
    Calls Try.prog 56 #[.string p] w fun e w' => (∃ v, e = .returned (.tuple #[v, .bool false])) ∧ Below w.heap.size w w' := by
  have HPR := Aside0.mk hpr
  clear hpr
  go_enter Try.func56, Try.ntmps56
  go_wp2_with (go_at_call 38; refine (HPR.out _).mono ?_; rintro e w' ⟨rfl, ⟨nd, rfl⟩⟩)
  go_ret2
  exact ⟨⟨_, rfl⟩, by repeat (first | exact Below.refl _ _ | apply pw_below_drewN | apply below_drew1 | apply below_drew)⟩
set_option maxHeartbeats 8000000 in
set_option maxRecDepth 100000 in
theorem implAlts_of (p : ByteArray) (hp : p.size ≤ 100) (w : World) (hpr : ∀ W : World, Calls Try.prog 38 #[.string p, .int .i64 100] W fun e W' => e = .returned (.bool true) ∧ Drawn0 W W') :
    Calls Try.prog 56 #[.string p] w fun e w' => (∃ v, e = .returned (.tuple #[v, .bool (okP p)])) ∧ Below w.heap.size w w' := by
  have HPR := Aside0.mk hpr
  have HP := Aside0.mk hp
  clear hpr hp
  go_enter Try.func56, Try.ntmps56
  go_upto_region 4 with (go_at_call 38; refine (HPR.out _).mono ?_; rintro e w' ⟨rfl, ⟨nd, rfl⟩⟩)
  have HE := Aside0.mk (show EnvP w (w.heap.size + 1) 1 (((w.drewN nd).alloc (.cells #[.slice none 0 0] 95)).alloc (.cells #[.slice (some ⟨w.heap.size, 0, none⟩) 1 1] 80)) from EnvP.undrew (envP_new (w.drewN nd) _ rfl))
  generalize (((w.drewN nd).alloc (.cells #[.slice none 0 0] 95)).alloc (.cells #[.slice (some ⟨w.heap.size, 0, none⟩) 1 1] 80)) = W1 at HE ⊢
  generalize w.heap.size + 1 = gO at HE ⊢
  clear HPR
  go_wp2
  go_loopg [6] (p.size + 1) (fun gg v6 wr => ∃ (x : Int) (f : Nat), v6 = .int .i64 x ∧ Aside0 (okAt p f x = okP p) ∧ Aside0 (0 ≤ x ∧ x ≤ p.size ∧ p.size - x.toNat < gg ∧ (p.size : Int) < f + x) ∧ Aside0 (EnvP w gO (x.toNat + 1) wr))
  case atStart => exact ⟨0, p.size + 1, rfl, ⟨rfl⟩, ⟨by omega⟩, HE⟩
  case round =>
    clear HE
    obtain ⟨x, f, rfl, HF, HL, HE⟩ := hrel
    by_cases hlt : x < (p.size : Int)
    · have hltb : decide (x < (p.size : Int)) = true := decide_eq_true hlt
      have p5 : (0 ≤ x) = True := eq_true HL.out.1
      have q5 : (x < (p.size : Int)) = True := eq_true hlt
      have hx5 := bt_at p x
      have HW := Aside0.mk (show wrap64 (x + 1) = x + 1 from wrap_le _ (by have := HL.out; omega) (by have := HL.out; have := HP.out; omega))
      have HR := Aside0.mk (bt_range p x)
      cases f with
      | zero => have := HL.out; omega
      | succ f =>
      have hF := HF.out
      simp only [okAt] at hF
      rw [if_pos hlt] at hF
      have HLT := Aside0.mk hlt
      clear HF hlt
      by_cases h92 : bt p x = 92
      · rw [if_pos h92] at hF
        have b124 : (bt p x == 124) = false := beq_eq_false_iff_ne.mpr (by omega)
        have b42 : (bt p x == 42) = false := beq_eq_false_iff_ne.mpr (by omega)
        have b63 : (bt p x == 63) = false := beq_eq_false_iff_ne.mpr (by omega)
        have b92 : (bt p x == 92) = true := beq_iff_eq.mpr h92
        clear h92
        have hwr : wrap64 (x + 1) = x + 1 := HW.out
        by_cases he : x + 1 = (p.size : Int)
        · rw [if_pos he] at hF
          have HV := Aside0.mk hF
          have hb : (x + 1 == (p.size : Int)) = true := beq_iff_eq.mpr he
          clear hF he
          go_wp2
          go_ret2
          exact ⟨⟨_, by rw [← HV.out]; rfl⟩, HE.out.low⟩
        · rw [if_neg he] at hF
          have hb : (x + 1 == (p.size : Int)) = false := beq_eq_false_iff_ne.mpr he
          have HLT2 := Aside0.mk (show x + 1 < (p.size : Int) by have := HLT.out; omega)
          have p6 : (0 ≤ x + 1) = True := eq_true (by have := HL.out; omega)
          have q6 : (x + 1 < (p.size : Int)) = True := eq_true HLT2.out
          have hx6 := bt_at p (x + 1)
          have HR2 := Aside0.mk (bt_range p (x + 1))
          clear he
          by_cases hs : bt p (x + 1) = 42 ∨ bt p (x + 1) = 63 ∨ bt p (x + 1) = 124 ∨ bt p (x + 1) = 92
          · rw [if_pos hs] at hF
            have HF1 := Aside0.mk hF
            have HI := Aside0.mk (fun W => patIdx_of (bt p (x + 1)) HR2.out.1 HR2.out.2 true (decide_eq_true hs) W)
            have HW2 := Aside0.mk (show wrap64 (x + 1 + 1) = x + 2 from (wrap_le _ (by have := HL.out; omega) (by have := HL.out; have := HP.out; omega)).trans (by omega))
            clear hF hs
            have HPUT := Aside0.mk (patPut_of HE.out (by have := HL.out; have := HP.out; omega) (⟨bt p (x + 1), false, false⟩ : SPc))
            clear HE
            go_wp2_with (first | (go_at_call 67; refine (HI.out _).mono ?_; rintro e w3 ⟨⟨ri, hri, rfl⟩, rfl⟩) | (go_at_call 66; refine HPUT.out.mono ?_; rintro e w4 ⟨rfl, he⟩; have HE4 := Aside0.mk he; clear he HPUT))
            go_roundg (gk - 1)
            case measure => have := HL.out; have := HLT.out; omega
            case rel => exact ⟨x + 2, f, by rw [HW2.out], HF1, ⟨by have := HL.out; have := HLT.out; have := HLT2.out; omega⟩, ⟨HE4.out.mono (by have := HL.out; omega)⟩⟩
          · rw [if_neg hs] at hF
            have HV := Aside0.mk hF
            have HI := Aside0.mk (fun W => patIdx_of (bt p (x + 1)) HR2.out.1 HR2.out.2 false (decide_eq_false hs) W)
            clear hF hs
            go_wp2_with (go_at_call 67; refine (HI.out _).mono ?_; rintro e w3 ⟨⟨ri, hri, rfl⟩, rfl⟩)
            go_ret2
            exact ⟨⟨_, by rw [← HV.out]; rfl⟩, HE.out.low⟩
      · rw [if_neg h92] at hF
        have HF1 := Aside0.mk hF
        have b92 : (bt p x == 92) = false := beq_eq_false_iff_ne.mpr h92
        clear hF h92
        by_cases h124 : bt p x = 124
        · have b124 : (bt p x == 124) = true := beq_iff_eq.mpr h124
          clear h124
          obtain ⟨low, new, g, m, c, lo, vl, ll, h1, h2, h3, h4, h5, h6⟩ := HE.out
          have hO : wr.cell? ⟨gO, 0, none⟩ = some (.slice (some ⟨g, 0, none⟩) (m + 1) c) := (blk_cell h1 0).trans rfl
          have H1 := Aside0.mk h1; have H2 := Aside0.mk h2; have H3 := Aside0.mk h3; have H5 := Aside0.mk h5; have HB := Aside0.mk low; have HG := Aside0.mk new
          clear h1 h2 h3 h4 h5 h6 low new HE
          go_wp2_with (first
            | ((with_reducible refine gate_builtin (b := .append) (xs := #[.tmp 29, .tmp 30]) rfl ?_); at_builtin
               refine Kd.R_append kV (w0 := w) w.heap.size rfl (.tmp 29) (.tmp 30) 80 95 (.slice none 0 0) 24 rfl Try.underlying80 infoPatLP rfl (by decide) (by omega) (.slice (some ⟨g, 0, none⟩) (m + 1) c) (lo ++ [vl]) (⟨.slice none 0 0, slice_one _ _ _⟩ : SV) [.slice none 0 0] (fun _ => True) (fun _ => False) rfl (by first | (go_simp; done) | (go_simp; rfl)) ?aP (fun _ hk => hk.elim) ?aF ?aO ?aB ?aS ?aL ?_
               (case aP => exact rfl); (case aB => exact HB.out); (case aF => exact fun _ _ => trivial); (case aO => exact H3.out); (case aS => exact below_size HB.out); (case aL => rw [List.length_append, H2.out]; have := H5.out; have := HL.out; have := HP.out; simp; omega)
               intro v1 w4 ho hb hg hat
               obtain ⟨g1, c1, rfl, hg1, _, _⟩ := Kd.R_form ho (by simp)
               have hl : ((lo ++ [vl]) ++ [(⟨.slice none 0 0, slice_one _ _ _⟩ : SV)]).length = m + 1 + 1 := by simp [H2.out]
               rw [hl] at ho ⊢
               have K1 := Aside0.mk (blk_grown H1.out hg (Kd.R_ne H3.out H1.out (by decide))); have K3 := Aside0.mk ho; have KB := Aside0.mk hb; have KG := Aside0.mk hg1
               have hO4 : w4.cell? ⟨gO, 0, none⟩ = some (.slice (some ⟨g, 0, none⟩) (m + 1) c) := (blk_cell K1.out 0).trans rfl
               have hf4 := blk_frozen K1.out 0
               clear ho hb hg hat hl hg1 H1 H3 HB hO))
          have HE4 := Aside0.mk (show EnvP w gO ((x + 1).toNat + 1) (w4.setCell ⟨gO, 0, none⟩ (.slice (some ⟨g1, 0, none⟩) (m + 1 + 1) c1)) from ⟨below_set KB.out HG.out, HG.out, g1, m + 1, c1, lo ++ [vl], ⟨.slice none 0 0, slice_one _ _ _⟩, [], blk_put K1.out 0 _ (cs' := #[.slice (some ⟨g1, 0, none⟩) (m + 1 + 1) c1]) rfl, by simp [H2.out], Kd.R_set K3.out K1.out (by decide) 0 _, Kd.R_nil _ _ _ _ _, by have := H5.out; have := HL.out; omega, by simp⟩)
          go_roundg (gk - 1)
          case measure => have := HL.out; have := HLT.out; omega
          case rel => exact ⟨x + 1, f, by rw [HW.out], HF1, ⟨by have := HL.out; have := HLT.out; omega⟩, HE4⟩
        · have b124 : (bt p x == 124) = false := beq_eq_false_iff_ne.mpr h124
          clear h124
          by_cases h42 : bt p x = 42
          · have b42 : (bt p x == 42) = true := beq_iff_eq.mpr h42
            clear h42
            have HPUT := Aside0.mk (patPut_of HE.out (by have := HL.out; have := HP.out; omega) (⟨0, false, true⟩ : SPc))
            clear HE
            go_wp2_with (first | (go_at_call 66; refine HPUT.out.mono ?_; rintro e w4 ⟨rfl, he⟩; have HE4 := Aside0.mk he; clear he HPUT))
            go_roundg (gk - 1)
            case measure => have := HL.out; have := HLT.out; omega
            case rel => exact ⟨x + 1, f, by rw [HW.out], HF1, ⟨by have := HL.out; have := HLT.out; omega⟩, ⟨HE4.out.mono (by have := HL.out; omega)⟩⟩
          · have b42 : (bt p x == 42) = false := beq_eq_false_iff_ne.mpr h42
            clear h42
            by_cases h63 : bt p x = 63
            · have b63 : (bt p x == 63) = true := beq_iff_eq.mpr h63
              clear h63
              have HPUT := Aside0.mk (patPut_of HE.out (by have := HL.out; have := HP.out; omega) (⟨0, true, false⟩ : SPc))
              clear HE
              go_wp2_with (first | (go_at_call 66; refine HPUT.out.mono ?_; rintro e w4 ⟨rfl, he⟩; have HE4 := Aside0.mk he; clear he HPUT))
              go_roundg (gk - 1)
              case measure => have := HL.out; have := HLT.out; omega
              case rel => exact ⟨x + 1, f, by rw [HW.out], HF1, ⟨by have := HL.out; have := HLT.out; omega⟩, ⟨HE4.out.mono (by have := HL.out; omega)⟩⟩
            · have b63 : (bt p x == 63) = false := beq_eq_false_iff_ne.mpr h63
              clear h63
              have HPUT := Aside0.mk (patPut_of HE.out (by have := HL.out; have := HP.out; omega) (⟨bt p x, false, false⟩ : SPc))
              clear HE
              go_wp2_with (first | (go_at_call 66; refine HPUT.out.mono ?_; rintro e w4 ⟨rfl, he⟩; have HE4 := Aside0.mk he; clear he HPUT))
              go_roundg (gk - 1)
              case measure => have := HL.out; have := HLT.out; omega
              case rel => exact ⟨x + 1, f, by rw [HW.out], HF1, ⟨by have := HL.out; have := HLT.out; omega⟩, ⟨HE4.out.mono (by have := HL.out; omega)⟩⟩
    · have hFT : okP p = true := by
        rw [← HF.out]
        cases f with
        | zero => have := HL.out; omega
        | succ f => simp only [okAt]; rw [if_neg hlt]
      have hltb : decide (x < (p.size : Int)) = false := decide_eq_false hlt
      clear hlt
      have HV := Aside0.mk hFT
      clear hFT HF
      obtain ⟨low, new, g, m, c, lo, vl, ll, h1, h2, h3, h4, h5, h6⟩ := HE.out
      have hO : wr.cell? ⟨gO, 0, none⟩ = some (.slice (some ⟨g, 0, none⟩) (m + 1) c) := (blk_cell h1 0).trans rfl
      have HB := Aside0.mk low
      clear h1 h2 h3 h4 h5 h6 low new HE
      go_wp2
      go_ret2
      exact ⟨⟨_, by rw [HV.out]; rfl⟩, HB.out⟩

set_option maxHeartbeats 4000000 in
set_option maxRecDepth 100000 in
theorem impl_GoodPattern.calls (k : Nat) (a0 : ByteArray) (r : Bool) (w : World) (h : impl_GoodPattern.f k a0 = some r) :
    Calls Try.prog 39 #[.string a0] w fun e w' => e = .returned (.bool r) ∧ Below w.heap.size w w' := by
  unfold impl_GoodPattern.f at h
  have HQ := Aside0.mk (show ∀ W : World, Calls Try.prog 56 #[.string a0] W fun e w' => (∃ v, e = .returned (.tuple #[v, .bool r])) ∧ Below W.heap.size W w' from fun W => by
    obtain ⟨t, ht, h⟩ := Option.bind_eq_some_iff.1 h
    cases t with
    | true =>
      rw [if_pos rfl] at h
      by_cases hp : a0.size ≤ 100
      · rw [if_pos hp] at h
        obtain rfl := Option.some.inj h
        exact implAlts_of a0 hp W (fun W' => impl_printed.calls k a0 100 true W' ht)
      · rw [if_neg hp] at h
        exact absurd h (by simp)
    | false =>
      rw [if_neg (by decide)] at h
      obtain rfl := Option.some.inj h
      exact implAlts_odd a0 W (fun W' => impl_printed.calls k a0 100 false W' ht))
  clear h
  go_enter Try.func39, Try.ntmps39
  go_wp2_with (go_at_call 56; refine (HQ.out _).mono ?_; rintro e w' ⟨⟨v, rfl⟩, hb⟩)
  go_ret
  exact ⟨rfl, hb⟩
end Go.Proofs.Ytafphfdnoejdeaa.PFnExactGoodPipe
