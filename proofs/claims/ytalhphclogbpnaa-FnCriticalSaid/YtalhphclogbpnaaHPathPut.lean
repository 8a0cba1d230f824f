/- Parts of one claim's proof, put together (merge.py). -/
import Derived.Test.YtalhphclogbpnaaHFilterCall
import Derived.Test.YtalhphclogbpnaaPFnCriticalx3
/- A trace's critical path in plain words; what the walks keep of the memory. -/
namespace Go.Proofs.Ytalhphclogbpnaa.PFnCritical
open Go.RowKit Go.Shelf Go.Proofs.YtalhphclogbpnaaW.PrintWords Go.Proofs.YtalhphclogbpnaaW.PrintLast Go.Proofs.YtalhphclogbpnaaW.PrintMore
set_option linter.unusedVariables false
set_option linter.unusedSimpArgs false
abbrev SP := S36
def putM (n a b : Int) (out : List SP) : List SP := if a < b then out ++ [⟨n, a, b⟩] else out
def endM (k : SC) (m : Int) : Int := if m < k.f5 then m else k.f5
def canM (m : Int) (k : SC) : Bool := decide (k.f4 < k.f5) && decide (k.f4 < m)
def nextV (m : Int) (acc : Option SC) (k : SC) : Bool := match acc with
  | none => true
  | some b => decide (endM b m ≤ endM k m)
def stepV (m : Int) (acc : Option SC) (k : SC) : Option SC := if (canM m k && nextV m acc k) = true then some k else acc
def bestV (m : Int) (l : List SC) : Option SC := l.foldl (stepV m) none
def kidsM (l : List SC) (n : Int) : List SC := l.filter (fun x => x.f1 == n)
/-- The parts from a moment in a call back to its From, the last one first; 'k': how deep and how far. -/
def pathF (l : List SC) : Nat → SC → Int → List SP → Option (List SP)
  | 0, _, _, _ => none
  | k + 1, x, m, out => if out.length < 5864062014805 then (match bestV m (kidsM l x.f0) with
    | none => some (putM x.f0 x.f4 m out)
    | some b => (pathF l k b (endM b m) (putM x.f0 (endM b m) m out)).bind fun o => pathF l k x b.f4 o) else none
theorem pathF_mono (l : List SC) : ∀ k x m out r, pathF l k x m out = some r → pathF l (k + 1) x m out = some r
  | 0, _, _, _, _, h => by simp [pathF] at h
  | k + 1, x, m, out, r, h => by
    rw [pathF] at h ⊢
    split at h
    · rename_i hl
      rw [if_pos hl]
      cases hb : bestV m (kidsM l x.f0) with
      | none => rw [hb] at h; exact h
      | some b =>
        rw [hb] at h
        obtain ⟨o, h1, h2⟩ := Option.bind_eq_some_iff.1 h
        exact Option.bind_eq_some_iff.2 ⟨o, pathF_mono l k _ _ _ _ h1, pathF_mono l k _ _ _ _ h2⟩
    · exact absurd h (by simp)
/-! What the walks keep of the memory: all but the variable out, and what lies in rows of parts. -/
def OnlyM (gO : Nat) (w w' : World) : Prop := w.heap.size ≤ w'.heap.size ∧ ∀ i, i < w.heap.size → i ≠ gO → (¬ ∃ cs, w.heap[i]? = some (.cells cs 36 (0, 0))) → w'.heap[i]? = w.heap[i]?
theorem OnlyM.refl (gO : Nat) (w : World) : OnlyM gO w w := ⟨Nat.le_refl _, fun _ _ _ _ => rfl⟩
theorem OnlyM.trans {gO : Nat} {w w1 w2 : World} (h : OnlyM gO w w1) (k : OnlyM gO w1 w2) : OnlyM gO w w2 :=
  ⟨Nat.le_trans h.1 k.1, fun i hi hg ht => by
    have e := h.2 i hi hg ht
    rw [← e] at ht
    exact (k.2 i (Nat.lt_of_lt_of_le hi h.1) hg ht).trans e⟩
theorem OnlyM.of_below {gO : Nat} {w w1 : World} (h : Below w.heap.size w w1) : OnlyM gO w w1 := ⟨h.size, fun i hi _ _ => h.block i hi⟩
theorem OnlyM.blk {gO g : Nat} {w w1 : World} (h : OnlyM gO w w1) {cs : Array Value} {t : TypeId} (hb : w.heap[g]? = some (.cells cs t (0, 0))) (hg : g ≠ gO) (ht : t ≠ 36) : w1.heap[g]? = some (.cells cs t (0, 0)) :=
  (h.2 g (blk_lt hb) hg (fun ⟨cs', e⟩ => by rw [hb] at e; injection e with e; injection e with _ e2; exact ht e2)).trans hb
theorem OnlyM.row {α : Type} {d : Kd α} {gO : Nat} {w w1 : World} (h : OnlyM gO w w1) {e base : Nat} {v : Value} {xs : List α} (hr : d.R e w base (fun _ => True) v xs) (hE : d.E = []) (he : e ≠ 36) {cs : Array Value} {t : TypeId} (ho : w.heap[gO]? = some (.cells cs t (0, 0))) (ht : e ≠ t) : d.R e w1 base (fun _ => True) v xs := by
  refine Kd.R_mono (Kd.R_step (Kd.R_bound hr) (fun k hk hlt => ?_)) (fun _ _ => trivial)
  obtain ⟨_, _, _, q, hq, cells, hc⟩ := hk
  rw [hE, List.mem_singleton] at hq
  subst hq
  refine h.2 k hlt (blk_ne hc ho ht) (fun ⟨cs', e'⟩ => ?_)
  rw [hc] at e'
  injection e' with e'
  injection e' with _ e2
  exact he e2
/-- The four variables of the call, and the row of parts. -/
structure EnvM (w0 : World) (gT gP gB gO : Nat) (n : Int) (A : Option Addr) (c : Nat) (l : List SC) (w : World) (out : List SP) : Prop where
  t : w.heap[gT]? = some (.cells #[.int .i64 n, .slice A l.length c] 25 (0, 0))
  p : w.heap[gP]? = some (.cells #[.func (.func 14) #[] #[.pointer (some ⟨gO, 0, none⟩)]] 45 (0, 0))
  b : w.heap[gB]? = some (.cells #[.func (.func 15) #[] #[.pointer (some ⟨gT, 0, none⟩), .pointer (some ⟨gP, 0, none⟩), .pointer (some ⟨gB, 0, none⟩)]] 46 (0, 0))
  o : ∃ v, w.heap[gO]? = some (.cells #[v] 27 (0, 0)) ∧ Kd.R k36 36 w w0.heap.size (fun _ => True) v out
  low : Below w0.heap.size w0 w
  ge : w0.heap.size ≤ gO
theorem EnvM.below {w0 : World} {gT gP gB gO : Nat} {n : Int} {A : Option Addr} {c : Nat} {l : List SC} {w w1 : World} {out : List SP} (h : EnvM w0 gT gP gB gO n A c l w out) (hb : Below w.heap.size w w1) : EnvM w0 gT gP gB gO n A c l w1 out := by
  obtain ⟨v, ho, hr⟩ := h.o
  exact ⟨blk_below h.t hb, blk_below h.p hb, blk_below h.b hb, ⟨v, blk_below ho hb, Kd.R_below hr hb⟩, below_step h.low hb, h.ge⟩
theorem EnvM.only {w0 : World} {gT gP gB gO : Nat} {n : Int} {A : Option Addr} {c : Nat} {l : List SC} {w w1 : World} {out : List SP} (h : EnvM w0 gT gP gB gO n A c l w out) {g : Nat} {cs : Array Value} {t : TypeId} (hg : w.heap[g]? = some (.cells cs t (0, 0))) (ht : t ≠ 36) (ht2 : t ≠ 27) (ho : OnlyM gO w w1) : w1.heap[g]? = some (.cells cs t (0, 0)) := by
  obtain ⟨v, hO, _⟩ := h.o
  exact ho.blk hg (blk_ne hg hO ht2) ht
end Go.Proofs.Ytalhphclogbpnaa.PFnCritical
/- The walks of put and kidsOf: the little ones of CriticalPath. -/
namespace Go.Proofs.Ytalhphclogbpnaa.PFnCritical
open Go.RowKit Go.Shelf Go.Proofs.YtalhphclogbpnaaW.PrintWords Go.Proofs.YtalhphclogbpnaaW.PrintLast Go.Proofs.YtalhphclogbpnaaW.PrintMore
set_option linter.unusedVariables false
set_option linter.unusedSimpArgs false
theorem infoPart : (Try.prog.info? 36).map (fun i => (i.zero, i.size, i.bytes)) = some (some (.agg #[(.int .i64 0), (.int .i64 0), (.int .i64 0)]), 3, 24) := by kernel_rfl
set_option maxHeartbeats 4000000 in
set_option maxRecDepth 100000 in
theorem kid1_of (x : SC) (n : Int) (g : Nat) (w : World) (h : w.cell? ⟨g, 0, none⟩ = some (.int .i64 n)) : Calls Try.prog 31 #[.agg #[.int .i64 x.f0, .int .i64 x.f1, .string x.f2, .string x.f3, .int .i64 x.f4, .int .i64 x.f5, .bool x.f6], .pointer (some ⟨g, 0, none⟩)] w fun e w' => e = .returned (.bool (x.f1 == n)) ∧ Below w.heap.size w w' := by
  go_enter Try.func31, Try.ntmps31
  have h' := pw_cell_below (below_alloc (Below.refl w.heap.size w) (.cells #[.int .i64 x.f0, .int .i64 x.f1, .string x.f2, .string x.f3, .int .i64 x.f4, .int .i64 x.f5, .bool x.f6] 34)) h
  go_wp2
  go_ret
  exact ⟨rfl, by repeat (first | exact Below.refl _ _ | apply below_alloc | apply pw_below_drewN | apply below_drew1 | apply below_drew)⟩
theorem two_blocks (w : World) (o0 o1 : Obj) : ((w.alloc o0).alloc o1).heap[w.heap.size]? = some o0 ∧ ((w.alloc o0).alloc o1).heap[w.heap.size + 1]? = some o1 ∧ Below w.heap.size w ((w.alloc o0).alloc o1) := by
  have sz : ∀ (w : World) (o : Obj), (w.alloc o).heap.size = w.heap.size + 1 := fun w o => by first | rfl | (rw [World.alloc_eq]; exact Array.size_push _) | simp
  have b0 := blk_new w o0
  have b1 := blk_new (w.alloc o0) o1
  rw [sz w o0] at b1
  exact ⟨(Below.heap_alloc (w.alloc o0) o1 _ (blk_lt b0)).trans b0, b1, below_alloc (below_alloc (Below.refl _ _) _) _⟩
set_option maxHeartbeats 4000000 in
set_option maxRecDepth 100000 in
theorem kids_of {l : List SC} {A : Option Addr} {c : Nat} {w : World} (hC : Kd.C k34 w A l.length l) (hmax : l.length ≤ 1048576) (t n : Int) :
    Calls Try.prog 16 #[.agg #[.int .i64 t, .slice A l.length c], .int .i64 n] w fun e w' => ∃ v0_ : Value, e = .returned v0_ ∧ Kd.R k34 34 w' w.heap.size (fun _ => True) v0_ (kidsM l n) ∧ Below w.heap.size w w' := by
  have HC := Aside0.mk hC
  have HM := Aside0.mk hmax
  clear hC hmax
  go_enter Try.func16, Try.ntmps16
  go_upto_region 1 with (fail)
  obtain ⟨f0, f1, hB1⟩ := two_blocks w (.cells #[.int .i64 t, .slice A l.length c] 25) (.cells #[.int .i64 n] 3)
  generalize (w.alloc (.cells #[.int .i64 t, .slice A l.length c] 25)).alloc (.cells #[.int .i64 n] 3) = W1 at *
  have HB1 := Aside0.mk hB1
  have c0' : W1.cell? ⟨w.heap.size, 1, none⟩ = some (.slice A l.length c) := (blk_cell f0 1).trans rfl
  have c1' : W1.cell? ⟨w.heap.size + 1, 0, none⟩ = some (.int .i64 n) := (blk_cell f1 0).trans rfl
  have HQ := Aside0.mk (filter_of (c := c) 31 #[.pointer (some ⟨w.heap.size + 1, 0, none⟩)] (enters_of Try.func31 (by kernel_rfl) rfl) (fun x => x.f1 == n) (Kd.C_below HC.out HB1.out) HM.out (fun x _ W hW => kid1_of x n _ W (pw_cell_below hW c1')))
  clear f0 f1 hB1 c1'
  go_wp2_with (go_at_call 30; refine HQ.out.mono ?_; rintro e w' ⟨v0, rfl, ho, hb⟩)
  go_ret
  exact ⟨_, rfl, Kd.R_lower ho (below_size HB1.out), below_step HB1.out hb⟩
set_option maxHeartbeats 8000000 in
set_option maxRecDepth 100000 in
theorem put_of {w0 : World} {gT gP gB gO : Nat} {n : Int} {A : Option Addr} {c : Nat} {l : List SC} {w : World} {out : List SP} (h : EnvM w0 gT gP gB gO n A c l w out) (hl : out.length < 5864062014805) (x : SC) (a b : Int) :
    Calls Try.prog 14 #[.agg #[.int .i64 x.f0, .int .i64 x.f1, .string x.f2, .string x.f3, .int .i64 x.f4, .int .i64 x.f5, .bool x.f6], .int .i64 a, .int .i64 b, .pointer (some ⟨gO, 0, none⟩)] w fun e w' => e = .returned (.tuple #[]) ∧ EnvM w0 gT gP gB gO n A c l w' (putM x.f0 a b out) ∧ OnlyM gO w w' := by
  have HE := Aside0.mk h
  have HL := Aside0.mk hl
  clear h hl
  by_cases hab : a < b
  · have habb : decide (a < b) = true := decide_eq_true hab
    have HP := Aside0.mk (show putM x.f0 a b out = out ++ [⟨x.f0, a, b⟩] by unfold putM; rw [if_pos hab])
    clear hab
    go_enter Try.func14, Try.ntmps14
    go_upto_region 1 with (fail)
    have HX := Aside0.mk (blk_new w (.cells #[.int .i64 x.f0, .int .i64 x.f1, .string x.f2, .string x.f3, .int .i64 x.f4, .int .i64 x.f5, .bool x.f6] 34))
    have HB1 := Aside0.mk (below_alloc (Below.refl w.heap.size w) (.cells #[.int .i64 x.f0, .int .i64 x.f1, .string x.f2, .string x.f3, .int .i64 x.f4, .int .i64 x.f5, .bool x.f6] 34))
    have HE1 := Aside0.mk (HE.out.below HB1.out)
    generalize w.alloc (.cells #[.int .i64 x.f0, .int .i64 x.f1, .string x.f2, .string x.f3, .int .i64 x.f4, .int .i64 x.f5, .bool x.f6] 34) = W1 at HX HB1 HE1 ⊢
    obtain ⟨v, hO0, hR0⟩ := HE1.out.o
    have HO := Aside0.mk hO0
    have HR := Aside0.mk hR0
    clear hO0 hR0
    have hx0 : W1.cell? ⟨w.heap.size, 0, none⟩ = some (.int .i64 x.f0) := (blk_cell HX.out 0).trans rfl
    have ho0 : W1.cell? ⟨gO, 0, none⟩ = some v := (blk_cell HO.out 0).trans rfl
    go_wp2_with (first
      | ((with_reducible refine gate_builtin (b := .append) (xs := #[.tmp 10, .tmp 16]) rfl ?_); at_builtin
         refine Kd.R_append k36 (w0 := w0) w0.heap.size rfl (.tmp 10) (.tmp 16) 27 36 (.agg #[(.int .i64 0), (.int .i64 0), (.int .i64 0)]) 24 rfl Try.underlying27 infoPart rfl (by decide) (by omega) v out (⟨x.f0, a, b⟩ : SP) [.int .i64 x.f0, .int .i64 a, .int .i64 b] (fun _ => True) (fun _ => False) rfl (by first | (go_simp; done) | (go_simp; rfl)) ?aP (fun _ hk => hk.elim) ?aF ?aO ?aB ?aS ?aL ?_
         (case aP => exact k36_mkM _ _ _ (⟨x.f0, a, b⟩ : SP)); (case aB => exact HE1.out.low); (case aF => exact fun _ _ => trivial); (case aO => exact HR.out); (case aS => exact below_size HE1.out.low); (case aL => have := HL.out; omega)
         intro v1 w4 ho hb hg hat
         obtain ⟨A1, c1, rfl⟩ := Kd.R_slice ho
         generalize hq : (out ++ [(⟨x.f0, a, b⟩ : SP)]).length = q at ho ⊢
         clear hq
         rw [← HP.out] at ho
         have HR4 := Aside0.mk ho; have HB4 := Aside0.mk hb; have HG4 := Aside0.mk hg
         have HO4 := Aside0.mk (blk_grown HO.out hg (Kd.R_ne HR.out HO.out (by decide)))
         have hx4 : w4.cell? ⟨gO, 0, none⟩ = some v := (blk_cell HO4.out 0).trans rfl
         have hf4 := blk_frozen HO4.out 0
         clear ho hb hg hat hx0 ho0))
    first | go_end0 | ((try simp only [Exit.inBlock, Exit.then]); refine bodyPost_ret (results_none rfl _ _ _) rfl ?_)
    have hne : ∀ {g : Nat} {cs : Array Value} {t : TypeId}, W1.heap[g]? = some (.cells cs t (0, 0)) → t ≠ 27 → t ≠ 36 → (w4.setCell ⟨gO, 0, none⟩ (.slice A1 q c1)).heap[g]? = some (.cells cs t (0, 0)) := fun hb h1 h2 =>
      blk_far (blk_grown hb HG4.out (Kd.R_ne HR.out hb (fun e => h2 e.symm))) (p := ⟨gO, 0, none⟩) (blk_ne hb HO.out h1) _
    refine ⟨rfl, ⟨hne HE1.out.t (by decide) (by decide), hne HE1.out.p (by decide) (by decide), hne HE1.out.b (by decide) (by decide), ⟨_, blk_put HO4.out 0 _ (cs' := #[.slice A1 q c1]) rfl, Kd.R_set HR4.out HO4.out (by decide) 0 _⟩, below_set HB4.out HE1.out.ge, HE1.out.ge⟩, ?_⟩
    have hsz : (w4.setCell ⟨gO, 0, none⟩ (.slice A1 q c1)).heap.size = w4.heap.size := by first | simp | rfl
    refine ⟨by rw [hsz]; exact Nat.le_trans HB1.out.size HG4.out.size, fun i hi hg ht => ?_⟩
    have hi1 : i < W1.heap.size := Nat.lt_of_lt_of_le hi HB1.out.size
    refine (Below.heap_setCell w4 ⟨gO, 0, none⟩ _ i hg).trans ((HG4.out.block i hi1 (fun he => ht ?_)).trans (HB1.out.block i hi))
    obtain ⟨cs, hcs⟩ := Kd.R_typed HR.out i he.symm
    exact ⟨cs, (HB1.out.block i hi).symm.trans hcs⟩
  · have habb : decide (a < b) = false := decide_eq_false hab
    have HP := Aside0.mk (show putM x.f0 a b out = out by unfold putM; rw [if_neg hab])
    clear hab
    go_enter Try.func14, Try.ntmps14
    go_wp2
    first | go_end0 | ((try simp only [Exit.inBlock, Exit.then]); refine bodyPost_ret (results_none rfl _ _ _) rfl ?_)
    have hb : Below w.heap.size w (w.alloc (.cells #[.int .i64 x.f0, .int .i64 x.f1, .string x.f2, .string x.f3, .int .i64 x.f4, .int .i64 x.f5, .bool x.f6] 34)) := below_alloc (Below.refl _ _) _
    exact ⟨rfl, by rw [HP.out]; exact HE.out.below hb, OnlyM.of_below hb⟩
end Go.Proofs.Ytalhphclogbpnaa.PFnCritical
