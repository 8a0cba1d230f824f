/- impl.KeepTraces: what it computes, and the memory it walks over. -/
import Derived.Test.YthcamcmjafhehaaDoorHKeepC
import Derived.Test.YthcamcmjafhehaaDoorHMeets
import Derived.Test.YthcamcmjafhehaaDoorPFnExactKeepTracesx3
import Derived.Test.YthcamcmjafhehaaDoorPFnExactKeepTracesx2
import Derived.Test.YthcamcmjafhehaaDoorIdx
namespace Go.Proofs.YthcamcmjafhehaaDoor.PFnExactKeepTraces
open Go.RowKit Go.Proofs.YthcamcmjafhehaaDoorW.PrintWords Go.Proofs.YthcamcmjafhehaaDoorW.PrintLast Go.Proofs.YthcamcmjafhehaaDoorW.PrintMore
set_option linter.unusedVariables false
set_option linter.unusedSimpArgs false
abbrev SPo := S52
abbrev STr := S51
abbrev rdPo := rd_T52
abbrev rdTc := rd_T51
abbrev kPo := k52
abbrev kTc := k51
def meetsM (k : Nat) (kd least : Int) (sv : ByteArray) (id : Int) (l : List SC) : Option Bool :=
  if kd = 1 then some (l.any fun x => x.f6)
  else if kd = 2 then (if 0 < l.length then some (decide (wrap64 ((rdC l 0).f5 - (rdC l 0).f4) ≥ least)) else none)
  else if kd = 3 then some (l.any fun x => (x.f2.toList == sv.toList))
  else if kd = 4 then (impl_digitsOf.f id).bind fun s => if s.size ≤ 1048576 then (impl_Mix.f k (bytesOf s)).bind fun m => some (decide (Int.tmod m 1000 < least)) else none
  else some true
def bumpM (came : List Int) (j : Nat) : List Int := came.set j (wrap64 (rd came (j : Int) + 1))
def polM (k : Nat) (t : STr) : List SPo → Nat → List Int → Option (List Int × Bool)
  | [], _, came => some (came, false)
  | p :: ps, j, came => (meetsM k p.f0 p.f1 p.f2 t.f0 t.f1).bind fun m => if m = true then some (bumpM came j, if p.f0 = 5 then decide (rd (bumpM came j) (j : Int) ≤ p.f1) else true) else polM k t ps (j + 1) came
def trM (k : Nat) (pol : List SPo) : List STr → List Int → List Bool → Option (List Bool)
  | [], _, out => some out
  | t :: ts, came, out => (polM k t pol 0 came).bind fun r => trM k pol ts r.1 (out ++ [r.2])
def impl_KeepTraces.f (k : Nat) (pol : List SPo) (tr : List STr) : Option (List Bool) :=
  (impl_GoodPolicies.f k pol).bind fun g => if g = true then (if (tr.length : Int) > 50 then some [] else (Idx.anyM (fun (x : STr) => impl_KeepTraces_1.f x.f0 x.f1) tr).bind fun b => if b = true then some [] else (if pol.length ≤ 1000 then trM k pol tr (List.replicate pol.length 0) [] else none)) else some []
theorem meetsM_mono (k : Nat) (kd least : Int) (sv : ByteArray) (id : Int) (l : List SC) : LeO (meetsM k kd least sv id l) (meetsM (k + 1) kd least sv id l) := by
  unfold meetsM
  exact LeO.ite (LeO.refl _) (LeO.ite (LeO.refl _) (LeO.ite (LeO.refl _) (LeO.ite (LeO.bind (LeO.refl _) (fun s => LeO.ite (LeO.bind (impl_Mix.mono _ _) (fun m => LeO.refl _)) (LeO.refl _))) (LeO.refl _))))
theorem polM_mono (k : Nat) (t : STr) : ∀ (ps : List SPo) (j : Nat) (came : List Int), LeO (polM k t ps j came) (polM (k + 1) t ps j came)
  | [], _, _ => LeO.refl _
  | p :: ps, j, came => LeO.bind (meetsM_mono k _ _ _ _ _) (fun m => LeO.ite (LeO.refl _) (polM_mono k t ps _ _))
theorem trM_mono (k : Nat) (pol : List SPo) : ∀ (ts : List STr) (came : List Int) (out : List Bool), LeO (trM k pol ts came out) (trM (k + 1) pol ts came out)
  | [], _, _ => LeO.refl _
  | t :: ts, came, out => LeO.bind (polM_mono k t pol 0 came) (fun r => trM_mono k pol ts _ _)
theorem impl_KeepTraces.mono (pol : List SPo) (tr : List STr) (k : Nat) : LeO (impl_KeepTraces.f k pol tr) (impl_KeepTraces.f (k + 1) pol tr) := by
  unfold impl_KeepTraces.f
  exact LeO.bind (impl_GoodPolicies.mono _ _) (fun g => LeO.ite (LeO.ite (LeO.refl _) (LeO.bind (LeO.refl _) (fun b => LeO.ite (LeO.refl _) (LeO.ite (trM_mono k pol tr _ _) (LeO.refl _))))) (LeO.refl _))
theorem anyM_some {α : Type} (p : α → Bool) : ∀ l : List α, Idx.anyM (fun x => some (p x)) l = some (l.any p)
  | [] => rfl
  | x :: xs => by
    show (if p x = true then some true else Idx.anyM (fun x => some (p x)) xs) = _
    cases h : p x with
    | true => rw [if_pos rfl, List.any_cons, h]; rfl
    | false => rw [if_neg (by decide), List.any_cons, h, anyM_some p xs]; rfl
/-- a trace's calls hold one that failed -/
theorem fails_of (A : Option Addr) (c : Nat) (l : List SC) (W : World) (hC : Kd.C k60 W A l.length l) : Calls Tryd.prog 28 #[.slice A l.length c, .func (.func 29) #[] #[]] W fun e W' => e = .returned (.bool (l.any fun x => x.f6)) ∧ Below W.heap.size W W' := by
  refine Idx.containsFunc_impl_Call z60 k60 rfl 29 #[] (Go.Proofs.enters_of Tryd.func29 (by kernel_rfl) rfl) (fun x => some x.f6) A c l W hC ?_ _ (anyM_some _ l)
  intro x cs W1 r hx hW hK hg
  obtain rfl := k60_open hK
  exact (impl_KeepTraces_2.calls x.f0 x.f1 x.f2 x.f3 x.f4 x.f5 x.f6 r W1 hg).mono fun e W' hq => ⟨hq.1, hq.2⟩
set_option maxHeartbeats 4000000 in
set_option maxRecDepth 100000 in
theorem clo_service (gP : Nat) (kd least : Int) (sv : ByteArray) (x : SC) (W : World) (hP : W.heap[gP]? = some (.cells #[.int .i64 kd, .int .i64 least, .string sv] 52 (0, 0))) :
    Calls Tryd.prog 30 #[.agg #[.int .i64 x.f0, .int .i64 x.f1, .string x.f2, .string x.f3, .int .i64 x.f4, .int .i64 x.f5, .bool x.f6], .pointer (some ⟨gP, 0, none⟩)] W fun e W' => e = .returned (.bool ((x.f2.toList == sv.toList))) ∧ Below W.heap.size W W' := by
  have HB := Aside0.mk (below_alloc (Below.refl W.heap.size W) (.cells #[.int .i64 x.f0, .int .i64 x.f1, .string x.f2, .string x.f3, .int .i64 x.f4, .int .i64 x.f5, .bool x.f6] 60))
  have HX := Aside0.mk (blk_new W (.cells #[.int .i64 x.f0, .int .i64 x.f1, .string x.f2, .string x.f3, .int .i64 x.f4, .int .i64 x.f5, .bool x.f6] 60))
  have HP := Aside0.mk (blk_below hP HB.out)
  clear hP
  go_enter Tryd.func30, Tryd.ntmps30
  go_upto_region 1 with (fail)
  generalize W.alloc (.cells #[.int .i64 x.f0, .int .i64 x.f1, .string x.f2, .string x.f3, .int .i64 x.f4, .int .i64 x.f5, .bool x.f6] 60) = W1 at HB HX HP ⊢
  have hx2 : W1.cell? ⟨W.heap.size, 2, none⟩ = some (.string x.f2) := (blk_cell HX.out 2).trans rfl
  have hp2 : W1.cell? ⟨gP, 2, none⟩ = some (.string sv) := (blk_cell HP.out 2).trans rfl
  go_wp2
  go_ret
  exact ⟨by first | rfl | (congr 1; simp; done) | (simp [beq_eq_decide]; done), HB.out⟩
theorem service_of (gP : Nat) (kd least : Int) (sv : ByteArray) (A : Option Addr) (c : Nat) (l : List SC) (W : World) (hC : Kd.C k60 W A l.length l) (hP : W.heap[gP]? = some (.cells #[.int .i64 kd, .int .i64 least, .string sv] 52 (0, 0))) :
    Calls Tryd.prog 28 #[.slice A l.length c, .func (.func 30) #[] #[.pointer (some ⟨gP, 0, none⟩)]] W fun e W' => e = .returned (.bool (l.any fun x => (x.f2.toList == sv.toList))) ∧ Below W.heap.size W W' := by
  refine Idx.containsFunc_impl_Call z60 k60 rfl 30 #[.pointer (some ⟨gP, 0, none⟩)] (Go.Proofs.enters_of Tryd.func30 (by kernel_rfl) rfl) (fun x => some ((x.f2.toList == sv.toList))) A c l W hC ?_ _ (anyM_some _ l)
  intro x cs W1 r hx hW hK hg
  obtain rfl := k60_open hK
  obtain rfl := Option.some.inj hg
  exact (clo_service gP kd least sv x W1 (blk_below hP hW)).mono fun e W' hq => ⟨hq.1, hq.2⟩
theorem bad_of (A : Option Addr) (c : Nat) (l : List STr) (r : Bool) (W : World) (hC : Kd.C kTc W A l.length l) (h : Idx.anyM (fun (x : STr) => impl_KeepTraces_1.f x.f0 x.f1) l = some r) : Calls Tryd.prog 25 #[.slice A l.length c, .func (.func 26) #[] #[]] W fun e W' => e = .returned (.bool r) ∧ Below W.heap.size W W' := by
  refine Idx.containsFunc_impl_Trace z51 kTc rfl 26 #[] (Go.Proofs.enters_of Tryd.func26 (by kernel_rfl) rfl) (fun x => impl_KeepTraces_1.f x.f0 x.f1) A c l W hC ?_ r h
  intro x cs W1 r hx hW hK hg
  obtain ⟨A1, c1, rfl, l1, g1⟩ := k51_open hK
  exact (impl_KeepTraces_1.calls x.f0 A1 c1 x.f1 r W1 g1 l1 hg).mono fun e W' hq => ⟨hq.1, hq.2⟩
/-- the memory: the row of counts, the row of answers -/
structure KtEnv (w : World) (AC : Option Addr) (cc : Nat) (came : List Int) (vO : Value) (out : List Bool) (W : World) : Prop where
  hB : Below w.heap.size w W
  hC : Kd.R (Kd.int .i64) 3 W w.heap.size (fun _ => True) (.slice AC came.length cc) came
  hO : Kd.R Kd.bool 4 W w.heap.size (fun _ => True) vO out
variable {w W : World} {AC : Option Addr} {G cc : Nat} {came : List Int} {vO : Value} {out : List Bool}
theorem KtEnv.below (h : KtEnv w AC cc came vO out W) {W1 : World} (hb : Below W.heap.size W W1) : KtEnv w AC cc came vO out W1 := ⟨below_step h.hB hb, Kd.R_below h.hC hb, Kd.R_below h.hO hb⟩
theorem KtEnv.form (h : KtEnv w AC cc came vO out W) (hne : 0 < came.length) : ∃ G, AC = some ⟨G, 0, none⟩ := by
  obtain ⟨G, cap, e, _⟩ := Kd.R_form h.hC hne
  injection e with e1 e2 e3
  exact ⟨G, e1⟩
theorem KtEnv.ne (h : KtEnv w (some ⟨G, 0, none⟩) cc came vO out W) (hne : 0 < came.length) {g t : Nat} {cs : Array Value} (hX : W.heap[g]? = some (.cells cs t (0, 0))) (ht : t ≠ 3) : g ≠ G := by
  obtain ⟨g', cap, e, hg, _, cells, hc⟩ := Kd.R_form h.hC hne
  injection e with e1 e2 e3
  injection e1 with e1
  injection e1 with e1
  subst e1
  exact blk_ne hX hc ht
theorem KtEnv.cell (h : KtEnv w (some ⟨G, 0, none⟩) cc came vO out W) (j : Nat) (hj : j < came.length) : W.cell? ⟨G, j, none⟩ = some (.int .i64 (rd came (j : Int))) ∧ W.frozen? ⟨G, j, none⟩ = false := by
  obtain ⟨cs, hcl, hM, hcc, hfr⟩ := Kd.R_elem h.hC (0 : Int) (j : Int) (by omega) (by omega)
  have hM' : cs = [.int .i64 (came.getD (j : Int).toNat 0)] := hM
  subst hM'
  have e : (j : Int).toNat * (Kd.int .i64).sz + 0 = j := by show (j : Int).toNat * 1 + 0 = j; omega
  have h1 := hcc 0 _ rfl
  have h2 := hfr 0
  rw [e] at h1 h2
  exact ⟨h1, h2⟩
theorem KtEnv.bump (h : KtEnv w (some ⟨G, 0, none⟩) cc came vO out W) (j : Nat) (hj : j < came.length) (n : Int) : KtEnv w (some ⟨G, 0, none⟩) cc (came.set j n) vO out (W.setCell ⟨G, j, none⟩ (.int .i64 n)) := by
  obtain ⟨g', cap, e, hg, _, cells, hc⟩ := Kd.R_form h.hC (by omega)
  injection e with e1 e2 e3
  injection e1 with e1
  injection e1 with e1
  subst e1
  obtain ⟨cs, hcl, hM, hcc, hfr⟩ := Kd.R_elem h.hC (0 : Int) (j : Int) (by omega) (by omega)
  have hM' : cs = [.int .i64 (came.getD (j : Int).toNat 0)] := hM
  subst hM'
  have hs := (Kd.R_seg h.hC (j : Int) (by omega) (by omega) (seg := [.int .i64 n]) (j := 0) hcl hcc (show 0 + 1 ≤ 1 by omega) (x' := n) (okp := fun _ => False) (show ([] ++ [Value.int .i64 n] ++ [] : List Value) = [.int .i64 n] from rfl) (fun _ hk => hk.elim)).1
  have e : (j : Int).toNat * (Kd.int .i64).sz + 0 = j := by show (j : Int).toNat * 1 + 0 = j; omega
  rw [e, Int.toNat_natCast] at hs
  refine ⟨below_set h.hB hg, ?_, Kd.R_set h.hO hc (by decide) j _⟩
  rw [List.length_set]
  exact hs
theorem KtEnv.pushed (h : KtEnv w AC cc came vO out W) {W1 : World} {v1 : Value} {b : Bool} {ok : Nat → Prop} (ho : Kd.R Kd.bool 4 W1 w.heap.size ok v1 (out ++ [b])) (hb : Below w.heap.size w W1) (hg : W.grownBy W1 vO.ownBlock) : KtEnv w AC cc came v1 (out ++ [b]) W1 :=
  ⟨hb, Kd.R_over' h.hC (Kd.R_typed h.hO) (by decide) hg, Kd.R_mono ho (fun _ _ => trivial)⟩
end Go.Proofs.YthcamcmjafhehaaDoor.PFnExactKeepTraces
