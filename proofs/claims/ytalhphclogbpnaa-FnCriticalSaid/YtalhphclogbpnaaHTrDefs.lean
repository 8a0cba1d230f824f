/- Parts of one claim's proof, put together (merge.py). -/
import Derived.Test.YtalhphclogbpnaaPFnCriticalx3
import Derived.Test.YtalhphclogbpnaaHTraceMap
import Derived.Test.YtalhphclogbpnaaPFnCriticalx2
/- (*l1Cur).oddTrace: what it computes, and the memory it walks over. -/
namespace Go.Proofs.Ytalhphclogbpnaa.PFnCritical
open Go.RowKit Go.Proofs.YtalhphclogbpnaaW.PrintWords Go.Proofs.YtalhphclogbpnaaW.PrintLast Go.Proofs.YtalhphclogbpnaaW.PrintMore
set_option linter.unusedVariables false
set_option linter.unusedSimpArgs false
abbrev rdT := rd_T34
abbrev kT := k34
def su0 (x : SC) (r : Int) : SC := ⟨r, x.f1, x.f2, x.f3, x.f4, x.f5, x.f6⟩
def su1 (x : SC) (r : Int) : SC := ⟨x.f0, r, x.f2, x.f3, x.f4, x.f5, x.f6⟩
def su2 (x : SC) (r : ByteArray) : SC := ⟨x.f0, x.f1, r, x.f3, x.f4, x.f5, x.f6⟩
def su4 (x : SC) (r : Int) : SC := ⟨x.f0, x.f1, x.f2, x.f3, r, x.f5, x.f6⟩
def su5 (x : SC) (r : Int) : SC := ⟨x.f0, x.f1, x.f2, x.f3, x.f4, r, x.f6⟩
def oddNext (l : List SC) : SC := su1 (su0 (rdT l 0) (wrap64 ((rdT l (wrap64 ((l.length : Int) - 1))).f0 + 1))) (rdT l 0).f0
def spec_l1Cur_oddTrace.l0 : Nat → List Int → Int → Int → List SC → Option (List SC)
  | 0, _, _, _, _ => none
  | k + 1, s0, s1, s2, l => (spec_l1Cur_pick.f s0 s1 s2 3).bind fun p => if (l.length : Int) < wrap64 (99 + p.1) then (if l.length ≤ 1000 then spec_l1Cur_oddTrace.l0 k s0 p.2.1 p.2.2 (l ++ [oddNext l]) else none) else some l
def oddPut (l : List SC) (i : Int) (x : SC) : List SC := l.set i.toNat x
def oddFrom (x : SC) (r : Int) : Int := rd [-1, x.f5, wrap64 (x.f5 + 1), 0] r
def spec_l1Cur_oddTrace.f (k : Nat) (s0 : List Int) (s1 s2 id : Int) (l : List SC) : Option (Int × List SC) :=
  (spec_l1Cur_pick.f s0 s1 s2 (l.length : Int)).bind fun i => if 0 ≤ i.1 ∧ i.1 < (l.length : Int) then (spec_l1Cur_pick.f s0 i.2.1 i.2.2 16).bind fun q =>
    if q.1 = 0 then some (0, l)
    else if q.1 = 1 then (spec_l1Cur_pick.f s0 q.2.1 q.2.2 4).bind fun r => some (id, oddPut l i.1 (su0 (rdT l i.1) (r.1)))
    else if q.1 = 2 then (spec_l1Cur_pick.f s0 q.2.1 q.2.2 5).bind fun r => some (id, oddPut l i.1 (su1 (rdT l i.1) (r.1)))
    else if q.1 = 3 then (spec_l1Cur_of.f s0 q.2.1 q.2.2 [(⟨#[]⟩ : ByteArray), (⟨#[57]⟩ : ByteArray), (⟨#[100, 98]⟩ : ByteArray)]).bind fun r => some (id, oddPut l i.1 (su2 (rdT l i.1) (r.1)))
    else if q.1 = 4 then (spec_l1Cur_pick.f s0 q.2.1 q.2.2 4).bind fun r => if 0 ≤ r.1 ∧ r.1 < 4 then some (id, oddPut l i.1 (su4 (rdT l i.1) (oddFrom (rdT l i.1) r.1))) else none
    else if q.1 = 5 then (spec_l1Cur_pick.f s0 q.2.1 q.2.2 2).bind fun r => some (id, oddPut l i.1 (su5 (rdT l i.1) (wrap64 (1000000000000 + r.1))))
    else if q.1 = 6 then (spec_l1Cur_oddTrace.l0 k s0 q.2.1 q.2.2 l).bind fun l' => some (id, l')
    else some (id, l)
  else none
theorem spec_l1Cur_oddTrace.mono_l : ∀ k s0 s1 s2 l, LeO (spec_l1Cur_oddTrace.l0 k s0 s1 s2 l) (spec_l1Cur_oddTrace.l0 (k + 1) s0 s1 s2 l)
  | 0, _, _, _, _ => fun r h => by simp [spec_l1Cur_oddTrace.l0] at h
  | k + 1, s0, s1, s2, l => by
    have ih := spec_l1Cur_oddTrace.mono_l k
    unfold spec_l1Cur_oddTrace.l0
    refine LeO.bind (LeO.refl _) (fun p => ?_)
    refine LeO.ite (LeO.ite (ih _ _ _ _) (LeO.refl _)) (LeO.refl _)
theorem spec_l1Cur_oddTrace.mono (k : Nat) (s0 : List Int) (s1 s2 id : Int) (l : List SC) : LeO (spec_l1Cur_oddTrace.f k s0 s1 s2 id l) (spec_l1Cur_oddTrace.f (k + 1) s0 s1 s2 id l) := by
  unfold spec_l1Cur_oddTrace.f
  refine LeO.bind (LeO.refl _) (fun i => LeO.ite (LeO.bind (LeO.refl _) (fun q => ?_)) (LeO.refl _))
  refine LeO.ite (LeO.refl _) (LeO.ite (LeO.refl _) (LeO.ite (LeO.refl _) (LeO.ite (LeO.refl _) (LeO.ite (LeO.refl _) (LeO.ite (LeO.refl _) (LeO.ite (LeO.bind (spec_l1Cur_oddTrace.mono_l _ _ _ _ _) (fun _ => LeO.refl _)) (LeO.refl _)))))))
/-- the memory: the reader at g, the trace's own variable at gT, the variable of the result at gR, the calls at G -/
structure OddEnv (w0 : World) (gV : Nat) (cV : Array Value) (g gT gR G c : Nat) (id : Int) (l : List SC) (s0 : List Int) (s1 s2 : Int) (W : World) : Prop where
  hI : IsS41 w0 W g s0 s1 s2
  hB : Below w0.heap.size w0 W
  hR : Kd.R kT 34 W w0.heap.size (fun _ => True) (.slice (some ⟨G, 0, none⟩) l.length c) l
  hT : W.heap[gT]? = some (.cells #[.int .i64 id, .slice (some ⟨G, 0, none⟩) l.length c] 25 (0, 0))
  hO : W.heap[gR]? = some (.cells #[.int .i64 0, .slice none 0 0] 25 (0, 0))
  gT_ge : w0.heap.size ≤ gT
  gR_ge : w0.heap.size ≤ gR
  ne : gR ≠ gT
  hV : W.heap[gV]? = some (.cells cV 25 (0, 0))
  nT : gV ≠ gT
  nR : gV ≠ gR
variable {w0 : World} {gV : Nat} {cV : Array Value} {g gT gR G c : Nat} {id : Int} {l : List SC} {s0 : List Int} {s1 s2 : Int} {W : World}
theorem OddEnv.below (h : OddEnv w0 gV cV g gT gR G c id l s0 s1 s2 W) {W1 : World} (hb : Below W.heap.size W W1) : OddEnv w0 gV cV g gT gR G c id l s0 s1 s2 W1 :=
  ⟨h.hI.below hb, below_then h.hB h.hB.size hb, Kd.R_below h.hR hb, blk_below h.hT hb, blk_below h.hO hb, h.gT_ge, h.gR_ge, h.ne, blk_below h.hV hb, h.nT, h.nR⟩
theorem OddEnv.drew (h : OddEnv w0 gV cV g gT gR G c id l s0 s1 s2 W) : OddEnv w0 gV cV g gT gR G c id l s0 s1 s2 W.drew := h.below (below_drew1 (Below.refl _ _))
theorem OddEnv.drewN (h : OddEnv w0 gV cV g gT gR G c id l s0 s1 s2 W) (m : Nat) : OddEnv w0 gV cV g gT gR G c id l s0 s1 s2 (W.drewN m) := h.below (pw_below_drewN (Below.refl _ _) m)
theorem OddEnv.alloc (h : OddEnv w0 gV cV g gT gR G c id l s0 s1 s2 W) (o : Obj) : OddEnv w0 gV cV g gT gR G c id l s0 s1 s2 (W.alloc o) := h.below (below_alloc (Below.refl _ _) o)
/-- a call that reads on -/
theorem OddEnv.read (h : OddEnv w0 gV cV g gT gR G c id l s0 s1 s2 W) {W1 : World} {t1 t2 : Int} (hi : IsS41 w0 W1 g s0 t1 t2) (hb : Below w0.heap.size w0 W1) (hk : KeepBut W W1 g none) : OddEnv w0 gV cV g gT gR G c id l s0 t1 t2 W1 :=
  ⟨hi, hb, Kd.R_mono (Kd.R_keep (IsS41.apart h.hI h.hR (by decide)) hk (fun _ h => h.2)) (fun _ _ => trivial), KeepBut.blk hk h.hT (fun e => IsS41.ne_blk h.hI h.hT (by decide) e.symm) (by simp), KeepBut.blk hk h.hO (fun e => IsS41.ne_blk h.hI h.hO (by decide) e.symm) (by simp), h.gT_ge, h.gR_ge, h.ne, KeepBut.blk hk h.hV (fun e => IsS41.ne_blk h.hI h.hV (by decide) e.symm) (by simp), h.nT, h.nR⟩
theorem OddEnv.G_blk (h : OddEnv w0 gV cV g gT gR G c id l s0 s1 s2 W) (hne : 0 < l.length) : w0.heap.size ≤ G ∧ ∃ cells, W.heap[G]? = some (.cells cells 34 (0, 0)) := by
  obtain ⟨g', cap, e, hg, _, cells, hc⟩ := Kd.R_form h.hR hne
  injection e with e1 e2 e3
  injection e1 with e1
  injection e1 with e1
  subst e1
  exact ⟨hg, cells, hc⟩
theorem fieldsC_get (w : World) (base : Nat) (ok : Nat → Prop) {x : SC} {cs : List Value} (h : kT.M w base ok x cs) : cs = [.int .i64 x.f0, .int .i64 x.f1, .string x.f2, .string x.f3, .int .i64 x.f4, .int .i64 x.f5, .bool x.f6] := k34_openM h
/-- a store into a field of a call -/
theorem OddEnv.put (h : OddEnv w0 gV cV g gT gR G c id l s0 s1 s2 W) (i : Int) (h0 : 0 ≤ i) (h1 : i < (l.length : Int)) (j : Nat) (v : Value) (x : SC)
    (hx : ([.int .i64 (rdT l i).f0, .int .i64 (rdT l i).f1, .string (rdT l i).f2, .string (rdT l i).f3, .int .i64 (rdT l i).f4, .int .i64 (rdT l i).f5, .bool (rdT l i).f6] : List Value).take j ++ [v] ++ ([.int .i64 (rdT l i).f0, .int .i64 (rdT l i).f1, .string (rdT l i).f2, .string (rdT l i).f3, .int .i64 (rdT l i).f4, .int .i64 (rdT l i).f5, .bool (rdT l i).f6] : List Value).drop (j + 1) = [.int .i64 x.f0, .int .i64 x.f1, .string x.f2, .string x.f3, .int .i64 x.f4, .int .i64 x.f5, .bool x.f6]) (hj : j < 7) :
    OddEnv w0 gV cV g gT gR G c id (oddPut l i x) s0 s1 s2 (W.setCell ⟨G, i.toNat * 7 + j, none⟩ v) := by
  obtain ⟨hG, cells, hc⟩ := h.G_blk (by omega)
  obtain ⟨cs, hcl, hM, hcc, hfr⟩ := Kd.R_elem h.hR z34 i h0 h1
  obtain rfl := fieldsC_get _ _ _ hM
  have hs := (Kd.R_seg h.hR i h0 h1 (seg := [v]) (j := j) hcl hcc (show j + 1 ≤ 7 by omega) (x' := x) (by
    have : ([.int .i64 (rdT l i).f0, .int .i64 (rdT l i).f1, .string (rdT l i).f2, .string (rdT l i).f3, .int .i64 (rdT l i).f4, .int .i64 (rdT l i).f5, .bool (rdT l i).f6] : List Value).take j ++ [v] ++ ([.int .i64 (rdT l i).f0, .int .i64 (rdT l i).f1, .string (rdT l i).f2, .string (rdT l i).f3, .int .i64 (rdT l i).f4, .int .i64 (rdT l i).f5, .bool (rdT l i).f6] : List Value).drop (j + [v].length) = _ := hx
    exact (congrArg (fun q => kT.M W w0.heap.size _ x q) this).mpr (k34_mkM W w0.heap.size (fun k => True ∧ k ≠ G) x)) (fun _ hk => hk))
  have e1 : W.setCells G (i.toNat * 7 + j) [v] = W.setCell ⟨G, i.toNat * 7 + j, none⟩ v := rfl
  have e2 : (oddPut l i x).length = l.length := by simp [oddPut]
  refine ⟨IsS41.far h.hI (IsS41.ne_blk h.hI hc (by decide)) v, ?_, ?_, ?_, ?_, h.gT_ge, h.gR_ge, h.ne, blk_far h.hV (p := ⟨G, i.toNat * 7 + j, none⟩) (blk_ne h.hV hc (by decide)) v, h.nT, h.nR⟩
  · exact below_set h.hB hG
  · rw [e2]
    exact hs.1
  · rw [e2]
    exact blk_far h.hT (p := ⟨G, i.toNat * 7 + j, none⟩) (blk_ne h.hT hc (by decide)) v
  · exact blk_far h.hO (p := ⟨G, i.toNat * 7 + j, none⟩) (blk_ne h.hO hc (by decide)) v
theorem OddEnv.at (h : OddEnv w0 gV cV g gT gR G c id l s0 s1 s2 W) (i : Int) (h0 : 0 ≤ i) (h1 : i < (l.length : Int)) : (W.cell? ⟨G, i.toNat * 7, none⟩ = some (.int .i64 (rdT l i).f0) ∧ W.cell? ⟨G, i.toNat * 7 + 1, none⟩ = some (.int .i64 (rdT l i).f1) ∧ W.cell? ⟨G, i.toNat * 7 + 2, none⟩ = some (.string (rdT l i).f2) ∧ W.cell? ⟨G, i.toNat * 7 + 3, none⟩ = some (.string (rdT l i).f3) ∧ W.cell? ⟨G, i.toNat * 7 + 4, none⟩ = some (.int .i64 (rdT l i).f4) ∧ W.cell? ⟨G, i.toNat * 7 + 5, none⟩ = some (.int .i64 (rdT l i).f5) ∧ W.cell? ⟨G, i.toNat * 7 + 6, none⟩ = some (.bool (rdT l i).f6)) ∧ ∀ j, W.frozen? ⟨G, i.toNat * 7 + j, none⟩ = false := by
  obtain ⟨cs, hcl, hM, hcc, hfr⟩ := Kd.R_elem h.hR z34 i h0 h1
  obtain rfl := fieldsC_get _ _ _ hM
  exact ⟨⟨hcc 0 _ rfl, hcc 1 _ rfl, hcc 2 _ rfl, hcc 3 _ rfl, hcc 4 _ rfl, hcc 5 _ rfl, hcc 6 _ rfl⟩, hfr⟩
theorem OddEnv.setId (h : OddEnv w0 gV cV g gT gR G c id l s0 s1 s2 W) (hne : 0 < l.length) (n : Int) : OddEnv w0 gV cV g gT gR G c n l s0 s1 s2 (W.setCell ⟨gT, 0, none⟩ (.int .i64 n)) := by
  obtain ⟨hG, cells, hc⟩ := h.G_blk hne
  exact ⟨IsS41.far h.hI (IsS41.ne_blk h.hI h.hT (by decide)) _, below_set h.hB h.gT_ge, Kd.R_set h.hR h.hT (by decide) 0 _, blk_put h.hT 0 _ rfl, blk_far h.hO (p := ⟨gT, 0, none⟩) h.ne _, h.gT_ge, h.gR_ge, h.ne, blk_far h.hV (p := ⟨gT, 0, none⟩) h.nT _, h.nT, h.nR⟩
theorem three_texts (W : World) (a b c : ByteArray) : Kd.C Kd.string (W.alloc (.cells #[.string a, .string b, .string c] 9)) (some ⟨W.heap.size, 0, none⟩) ([a, b, c] : List ByteArray).length [a, b, c] := by
  have ho := World.ownsRow_lit (base := W.heap.size) (e := 9) (size := 1) W #[.string a, .string b, .string c] 3 (Nat.le_refl _) (by unfold maxLen; omega) rfl
  have hR : Kd.string.R 9 (W.alloc (.cells #[.string a, .string b, .string c] 9)) W.heap.size (fun _ => True) (.slice (some ⟨W.heap.size, 0, none⟩) 3 3) [a, b, c] := Kd.R_of_own ho (fun _ _ => trivial)
  exact (Kd.R_reads' hR).2.2
theorem oddFrom_cell {W : World} {gS : Nat} {x : SC} {r : Int} (hS : W.heap[gS]? = some (.cells #[.int .i64 (-1), .int .i64 x.f5, .int .i64 (wrap64 (x.f5 + 1)), .int .i64 0] 3 (0, 0))) (h0 : 0 ≤ r) (h1 : r < 4) : W.cell? ⟨gS, r.toNat, none⟩ = some (.int .i64 (oddFrom x r)) := by
  rw [blk_cell hS]
  have hr : r = 0 ∨ r = 1 ∨ r = 2 ∨ r = 3 := by omega
  rcases hr with rfl | rfl | rfl | rfl <;> rfl
/-- behind an append -/
theorem OddEnv.pushed (h : OddEnv w0 gV cV g gT gR G c id l s0 s1 s2 W) (hne : 0 < l.length) {W1 : World} {v1 : Value} {x : SC} {ok : Nat → Prop} (ho : Kd.R kT 34 W1 w0.heap.size ok v1 (l ++ [x])) (hb : Below w0.heap.size w0 W1) (hg : W.grownBy W1 (some G)) :
    ∃ G' c', v1 = .slice (some ⟨G', 0, none⟩) (l ++ [x]).length c' ∧ OddEnv w0 gV cV g gT gR G' c' id (l ++ [x]) s0 s1 s2 (W1.setCell ⟨gT, 1, none⟩ v1) := by
  obtain ⟨hG, cells, hc⟩ := h.G_blk hne
  obtain ⟨G', c', rfl, hG', _, cells', hc'⟩ := Kd.R_form ho (by simp)
  have hI := IsS41.grown h.hI hg (fun e => IsS41.ne_blk h.hI hc (by decide) (by injection e))
  have hT := blk_grown h.hT hg (fun e => blk_ne h.hT hc (by decide) (by injection e))
  have hO := blk_grown h.hO hg (fun e => blk_ne h.hO hc (by decide) (by injection e))
  exact ⟨G', c', rfl, IsS41.far hI (IsS41.ne_blk hI hT (by decide)) _, below_set hb h.gT_ge, Kd.R_mono (Kd.R_set ho hT (by decide) 1 _) (fun _ _ => trivial), blk_put hT 1 _ rfl, blk_far hO (p := ⟨gT, 1, none⟩) h.ne _, h.gT_ge, h.gR_ge, h.ne, blk_far (blk_grown h.hV hg (fun e => blk_ne h.hV hc (by decide) (by injection e))) (p := ⟨gT, 1, none⟩) h.nT _, h.nT, h.nR⟩
/-- a store into a call that lies aside -/
theorem OddEnv.aside (h : OddEnv w0 gV cV g gT gR G c id l s0 s1 s2 W) {gY : Nat} {cs : Array Value} (hr : Kd.R kT 34 W w0.heap.size (fun k => True ∧ k ≠ gY) (.slice (some ⟨G, 0, none⟩) l.length c) l) (hY : W.heap[gY]? = some (.cells cs 34 (0, 0))) (hge : w0.heap.size ≤ gY) (j : Nat) (u : Value) :
    OddEnv w0 gV cV g gT gR G c id l s0 s1 s2 (W.setCell ⟨gY, j, none⟩ u) ∧ Kd.R kT 34 (W.setCell ⟨gY, j, none⟩ u) w0.heap.size (fun k => True ∧ k ≠ gY) (.slice (some ⟨G, 0, none⟩) l.length c) l := by
  have h2 := Kd.R_far (p := ⟨gY, j, none⟩) hr (fun k hk => hk.2) u
  exact ⟨⟨IsS41.far h.hI (IsS41.ne_blk h.hI hY (by decide)) _, below_set h.hB hge, Kd.R_mono h2 (fun _ _ => trivial), blk_far h.hT (p := ⟨gY, j, none⟩) (blk_ne h.hT hY (by decide)) _, blk_far h.hO (p := ⟨gY, j, none⟩) (blk_ne h.hO hY (by decide)) _, h.gT_ge, h.gR_ge, h.ne, blk_far h.hV (p := ⟨gY, j, none⟩) (blk_ne h.hV hY (by decide)) _, h.nT, h.nR⟩, h2⟩
end Go.Proofs.Ytalhphclogbpnaa.PFnCritical
/- (*l1Cur).trace: what it computes, and the memory it walks over. -/
namespace Go.Proofs.Ytalhphclogbpnaa.PFnCritical
open Go.RowKit Go.Proofs.YtalhphclogbpnaaW.PrintWords Go.Proofs.YtalhphclogbpnaaW.PrintLast Go.Proofs.YtalhphclogbpnaaW.PrintMore
set_option linter.unusedVariables false
set_option linter.unusedSimpArgs false
abbrev webs : List ByteArray := [(⟨#[119, 101, 98]⟩ : ByteArray), (⟨#[97, 112, 105]⟩ : ByteArray), (⟨#[100, 98]⟩ : ByteArray)]
abbrev gets : List ByteArray := [(⟨#[103, 101, 116]⟩ : ByteArray), (⟨#[112, 117, 116]⟩ : ByteArray)]
def trFirst (a : Int) (b c : ByteArray) (d : Int) (e : Bool) (r : Int) : SC := ⟨wrap64 (1 + a), 0, b, c, d, wrap64 (d + r), e⟩
def trKid (l : List SC) (p a : Int) (b c : ByteArray) (e : Bool) (q r : Int) : SC :=
  ⟨wrap64 (wrap64 (1 + a) + (rdT l (wrap64 ((l.length : Int) - 1))).f0), (rdT l p).f0, b, c, wrap64 ((rdT l p).f4 + q), wrap64 (wrap64 ((rdT l p).f4 + q) + r), e⟩
def trNext (s0 : List Int) (s1 s2 : Int) (l : List SC) : Option (List SC × Int × Int) :=
  (spec_l1Cur_pick.f s0 s1 s2 3).bind fun a => (spec_l1Cur_of.f s0 a.2.1 a.2.2 webs).bind fun b => (spec_l1Cur_of.f s0 b.2.1 b.2.2 gets).bind fun c => (spec_l1Cur_pick.f s0 c.2.1 c.2.2 10).bind fun d => (spec_l1Cur_one.f s0 d.2.1 d.2.2 6).bind fun e =>
    if 0 < (l.length : Int) then (spec_l1Cur_pick.f s0 e.2.1 e.2.2 (l.length : Int)).bind fun p => if 0 ≤ p.1 ∧ p.1 < (l.length : Int) then (spec_l1Cur_pick.f s0 p.2.1 p.2.2 12).bind fun q => (spec_l1Cur_pick.f s0 q.2.1 q.2.2 30).bind fun r => if l.length ≤ 1000 then some (l ++ [trKid l p.1 a.1 b.1 c.1 e.1 q.1 r.1], r.2.1, r.2.2) else none
      else none
    else (spec_l1Cur_pick.f s0 e.2.1 e.2.2 30).bind fun r => if l.length ≤ 1000 then some (l ++ [trFirst a.1 b.1 c.1 d.1 e.1 r.1], r.2.1, r.2.2) else none
def spec_l1Cur_trace.l0 : Nat → Int → List Int → Int → Int → List SC → Option (List SC × Int × Int)
  | 0, _, _, _, _, _ => none
  | k + 1, n, s0, s1, s2, l => if 0 < n then (trNext s0 s1 s2 l).bind fun r => spec_l1Cur_trace.l0 k (wrap64 (n - 1)) s0 r.2.1 r.2.2 r.1 else some (l, s1, s2)
def spec_l1Cur_trace.f (k : Nat) (s0 : List Int) (s1 s2 id : Int) : Option (Int × List SC × Int × Int) :=
  (spec_l1Cur_pick.f s0 s1 s2 8).bind fun p => (spec_l1Cur_trace.l0 k (wrap64 (1 + p.1)) s0 p.2.1 p.2.2 []).bind fun r => some (id, r.1, r.2.1, r.2.2)
theorem spec_l1Cur_trace.mono_l : ∀ k n s0 s1 s2 l, LeO (spec_l1Cur_trace.l0 k n s0 s1 s2 l) (spec_l1Cur_trace.l0 (k + 1) n s0 s1 s2 l)
  | 0, _, _, _, _, _ => fun r h => by simp [spec_l1Cur_trace.l0] at h
  | k + 1, n, s0, s1, s2, l => by
    have ih := spec_l1Cur_trace.mono_l k
    unfold spec_l1Cur_trace.l0
    exact LeO.ite (LeO.bind (LeO.refl _) (fun r => ih _ _ _ _ _)) (LeO.refl _)
theorem spec_l1Cur_trace.mono (k : Nat) (s0 : List Int) (s1 s2 id : Int) : LeO (spec_l1Cur_trace.f k s0 s1 s2 id) (spec_l1Cur_trace.f (k + 1) s0 s1 s2 id) := by
  unfold spec_l1Cur_trace.f
  exact LeO.bind (LeO.refl _) (fun p => LeO.bind (spec_l1Cur_trace.mono_l _ _ _ _ _ _) (fun _ => LeO.refl _))
/-- the memory: the reader at g, the trace's own variable at gT, the variable of the result at gR, the calls over ok -/
structure TrEnv (w0 : World) (g gT gR : Nat) (A : Option Addr) (c : Nat) (id : Int) (l : List SC) (s0 : List Int) (s1 s2 : Int) (ok : Nat → Prop) (W : World) : Prop where
  hI : IsS41 w0 W g s0 s1 s2
  hB : Below w0.heap.size w0 W
  hR : Kd.R kT 34 W w0.heap.size ok (.slice A l.length c) l
  hT : W.heap[gT]? = some (.cells #[.int .i64 id, .slice A l.length c] 25 (0, 0))
  hO : W.heap[gR]? = some (.cells #[.int .i64 0, .slice none 0 0] 25 (0, 0))
  gT_ge : w0.heap.size ≤ gT
  gR_ge : w0.heap.size ≤ gR
  ne : gR ≠ gT
variable {w0 : World} {g gT gR G c : Nat} {A : Option Addr} {id : Int} {l : List SC} {s0 : List Int} {s1 s2 : Int} {ok : Nat → Prop} {W : World}
theorem TrEnv.below (h : TrEnv w0 g gT gR A c id l s0 s1 s2 ok W) {W1 : World} (hb : Below W.heap.size W W1) : TrEnv w0 g gT gR A c id l s0 s1 s2 ok W1 :=
  ⟨h.hI.below hb, below_then h.hB h.hB.size hb, Kd.R_below h.hR hb, blk_below h.hT hb, blk_below h.hO hb, h.gT_ge, h.gR_ge, h.ne⟩
theorem TrEnv.drew (h : TrEnv w0 g gT gR A c id l s0 s1 s2 ok W) : TrEnv w0 g gT gR A c id l s0 s1 s2 ok W.drew := h.below (below_drew1 (Below.refl _ _))
theorem TrEnv.alloc (h : TrEnv w0 g gT gR A c id l s0 s1 s2 ok W) (o : Obj) : TrEnv w0 g gT gR A c id l s0 s1 s2 ok (W.alloc o) := h.below (below_alloc (Below.refl _ _) o)
theorem TrEnv.weak (h : TrEnv w0 g gT gR A c id l s0 s1 s2 ok W) : TrEnv w0 g gT gR A c id l s0 s1 s2 (fun _ => True) W := ⟨h.hI, h.hB, Kd.R_mono h.hR (fun _ _ => trivial), h.hT, h.hO, h.gT_ge, h.gR_ge, h.ne⟩
/-- a call that reads on -/
theorem TrEnv.read (h : TrEnv w0 g gT gR A c id l s0 s1 s2 ok W) {W1 : World} {t1 t2 : Int} (hi : IsS41 w0 W1 g s0 t1 t2) (hb : Below w0.heap.size w0 W1) (hk : KeepBut W W1 g none) : TrEnv w0 g gT gR A c id l s0 t1 t2 ok W1 :=
  ⟨hi, hb, Kd.R_mono (Kd.R_keep (IsS41.apart h.hI h.hR (by decide)) hk (fun _ h => h.2)) (fun _ h => h.1), KeepBut.blk hk h.hT (fun e => IsS41.ne_blk h.hI h.hT (by decide) e.symm) (by simp), KeepBut.blk hk h.hO (fun e => IsS41.ne_blk h.hI h.hO (by decide) e.symm) (by simp), h.gT_ge, h.gR_ge, h.ne⟩
theorem TrEnv.keepB (h : TrEnv w0 g gT gR A c id l s0 s1 s2 ok W) {W1 : World} {gX : Nat} {cs : Array Value} (hX : W.heap[gX]? = some (.cells cs 34 (0, 0))) (hk : KeepBut W W1 g none) : W1.heap[gX]? = some (.cells cs 34 (0, 0)) :=
  KeepBut.blk hk hX (fun e => IsS41.ne_blk h.hI hX (by decide) e.symm) (by simp)
theorem TrEnv.elder (h : TrEnv w0 g gT gR A c id l s0 s1 s2 ok W) (a : Nat) (ha : W.heap.size ≤ a) : TrEnv w0 g gT gR A c id l s0 s1 s2 (fun k => ok k ∧ k ≠ a) W := ⟨h.hI, h.hB, Kd.R_elderB h.hR a ha, h.hT, h.hO, h.gT_ge, h.gR_ge, h.ne⟩
/-- a store into a call that lies aside -/
theorem TrEnv.far (h : TrEnv w0 g gT gR A c id l s0 s1 s2 ok W) {gX : Nat} {cs : Array Value} (hX : W.heap[gX]? = some (.cells cs 34 (0, 0))) (hge : w0.heap.size ≤ gX) (hok : ∀ k, ok k → k ≠ gX) (j : Nat) (u : Value) : TrEnv w0 g gT gR A c id l s0 s1 s2 ok (W.setCell ⟨gX, j, none⟩ u) :=
  ⟨IsS41.far h.hI (IsS41.ne_blk h.hI hX (by decide)) _, below_set h.hB hge, Kd.R_far (p := ⟨gX, j, none⟩) h.hR hok u, blk_far h.hT (p := ⟨gX, j, none⟩) (blk_ne h.hT hX (by decide)) _, blk_far h.hO (p := ⟨gX, j, none⟩) (blk_ne h.hO hX (by decide)) _, h.gT_ge, h.gR_ge, h.ne⟩
theorem TrEnv.form (h : TrEnv w0 g gT gR A c id l s0 s1 s2 ok W) (hne : 0 < l.length) : ∃ G, A = some ⟨G, 0, none⟩ := by
  obtain ⟨G, cap, e, _⟩ := Kd.R_form h.hR hne
  injection e with e1 e2 e3
  exact ⟨G, e1⟩
theorem TrEnv.held (h : TrEnv w0 g gT gR (some ⟨G, 0, none⟩) c id l s0 s1 s2 ok W) (i : Int) (h0 : 0 ≤ i) (h1 : i < (l.length : Int)) : W.cell? ⟨gT, 1, none⟩ = some (.slice (some ⟨G, 0, none⟩) l.length c) ∧ W.cell? ⟨G, i.toNat * 7, none⟩ = some (.int .i64 (rdT l i).f0) ∧ W.cell? ⟨G, i.toNat * 7 + 1, none⟩ = some (.int .i64 (rdT l i).f1) ∧ W.cell? ⟨G, i.toNat * 7 + 2, none⟩ = some (.string (rdT l i).f2) ∧ W.cell? ⟨G, i.toNat * 7 + 3, none⟩ = some (.string (rdT l i).f3) ∧ W.cell? ⟨G, i.toNat * 7 + 4, none⟩ = some (.int .i64 (rdT l i).f4) ∧ W.cell? ⟨G, i.toNat * 7 + 5, none⟩ = some (.int .i64 (rdT l i).f5) ∧ W.cell? ⟨G, i.toNat * 7 + 6, none⟩ = some (.bool (rdT l i).f6) := by
  obtain ⟨cs, hcl, hM, hcc, hfr⟩ := Kd.R_elem h.hR z34 i h0 h1
  obtain rfl := fieldsC_get _ _ _ hM
  exact ⟨(blk_cell h.hT 1).trans rfl, hcc 0 _ rfl, hcc 1 _ rfl, hcc 2 _ rfl, hcc 3 _ rfl, hcc 4 _ rfl, hcc 5 _ rfl, hcc 6 _ rfl⟩
theorem two_texts (W : World) (a b : ByteArray) : Kd.C Kd.string (W.alloc (.cells #[.string a, .string b] 9)) (some ⟨W.heap.size, 0, none⟩) ([a, b] : List ByteArray).length [a, b] := by
  have ho := World.ownsRow_lit (base := W.heap.size) (e := 9) (size := 1) W #[.string a, .string b] 2 (Nat.le_refl _) (by unfold maxLen; omega) rfl
  have hR : Kd.string.R 9 (W.alloc (.cells #[.string a, .string b] 9)) W.heap.size (fun _ => True) (.slice (some ⟨W.heap.size, 0, none⟩) 2 2) [a, b] := Kd.R_of_own ho (fun _ _ => trivial)
  exact (Kd.R_reads' hR).2.2
/-- behind an append -/
theorem TrEnv.pushed (h : TrEnv w0 g gT gR A c id l s0 s1 s2 ok W) {W1 : World} {v1 : Value} {x : SC} {ok' : Nat → Prop} (ho : Kd.R kT 34 W1 w0.heap.size ok' v1 (l ++ [x])) (hb : Below w0.heap.size w0 W1) (hg : W.grownBy W1 (Value.slice A l.length c).ownBlock) :
    ∃ A' c', v1 = .slice A' (l ++ [x]).length c' ∧ TrEnv w0 g gT gR A' c' id (l ++ [x]) s0 s1 s2 (fun _ => True) (W1.setCell ⟨gT, 1, none⟩ v1) := by
  obtain ⟨A', c', rfl⟩ := Kd.R_slice ho
  have hI := IsS41.grown h.hI hg (IsS41.own_ne h.hI h.hR (by decide))
  have hT := blk_grown h.hT hg (Kd.R_ne h.hR h.hT (by decide))
  have hO := blk_grown h.hO hg (Kd.R_ne h.hR h.hO (by decide))
  exact ⟨A', c', rfl, IsS41.far hI (IsS41.ne_blk hI hT (by decide)) _, below_set hb h.gT_ge, Kd.R_mono (Kd.R_set ho hT (by decide) 1 _) (fun _ _ => trivial), blk_put hT 1 _ rfl, blk_far hO (p := ⟨gT, 1, none⟩) h.ne _, h.gT_ge, h.gR_ge, h.ne⟩
theorem TrEnv.start (hI : IsS41 w0 W g s0 s1 s2) (hB : Below w0.heap.size w0 W) (id : Int) : TrEnv w0 g (W.heap.size + 1) W.heap.size none 0 id [] s0 s1 s2 (fun _ => True) ((W.alloc (.cells #[.int .i64 0, .slice none 0 0] 25)).alloc (.cells #[.int .i64 id, .slice none 0 0] 25)) := by
  have b1 := blk_new (W.alloc (.cells #[.int .i64 0, .slice none 0 0] 25)) (.cells #[.int .i64 id, .slice none 0 0] 25)
  have sz : ∀ (w : World) (o : Obj), (w.alloc o).heap.size = w.heap.size + 1 := fun w o => by first | rfl | (rw [World.alloc_eq]; exact Array.size_push _) | simp
  rw [sz] at b1
  exact ⟨(hI.alloc _).alloc _, below_alloc (below_alloc hB _) _, Kd.R_nil _ _ _ _ _, b1, blk_alloc (blk_new W _) _, by have := hB.size; omega, hB.size, by omega⟩
end Go.Proofs.Ytalhphclogbpnaa.PFnCritical
