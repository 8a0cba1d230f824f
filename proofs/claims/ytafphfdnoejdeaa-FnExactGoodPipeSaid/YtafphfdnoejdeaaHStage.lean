/- The walk of goodStage (written by stagegen.py). -/
import Derived.Test.YtafphfdnoejdeaaHForm
import Derived.Deep.CutBlock
import Derived.Test.YtafphfdnoejdeaaPFnExactGoodPipex3
namespace Go.Proofs.Ytafphfdnoejdeaa.PFnExactGoodPipe
attribute [local go_sem] Go.Proofs.Ytafphfdnoejdeaa.Cmp.str_gtr Go.Proofs.Ytafphfdnoejdeaa.Cmp.str_geq Go.Proofs.Ytafphfdnoejdeaa.Cmp.str_leq
open Go.RowKit Go.Proofs.YtafphfdnoejdeaaW.PrintWords Go.Proofs.YtafphfdnoejdeaaW.PrintLast Go.Proofs.YtafphfdnoejdeaaW.PrintMore Go.Proofs.Ytafphfdnoejdeaa.Evs Go.Proofs.Ytafphfdnoejdeaa.AFnExactGoodPipe Go.Proofs.Ytafphfdnoejdeaa.PrtFnExactGoodPipe Go.Proofs.Ytafphfdnoejdeaa.Form
set_option linter.unusedVariables false
set_option linter.unusedSimpArgs false
def emB (s : ByteArray) : Bool := decide (s.toList = [])
/-- What is asked at the end, of the fields that are left. -/
def endB (t n : ByteArray) (o : Int) (v : ByteArray) (op num : Int) (len : Nat) : Bool := emB t && (emB n && (decide (o = 0) && emB v)) && decide (op = 0) && decide (num = 0) && decide (len = 0)
def impl_goodStage.f (k : Nat) (a0_0 : Int) (a0_1 a0_2 : ByteArray) (a0_3 : Int) (a0_4 : ByteArray) (a0_5 a0_6 : Int) (l0_7 : List ByteArray) : Option Bool :=
  if a0_0 = 1 then (impl_printed.f k a0_1 100).bind fun b => some ((!emB a0_1 && b) && endB ⟨#[]⟩ a0_2 a0_3 a0_4 a0_5 a0_6 l0_7.length)
  else if a0_0 = 2 then (impl_printed.f k a0_1 100).bind fun b => some ((!emB a0_1 && b) && endB ⟨#[]⟩ a0_2 a0_3 a0_4 a0_5 a0_6 l0_7.length)
  else if a0_0 = 3 then (impl_GoodPattern.f k a0_1).bind fun b => some ((!emB a0_1 && b) && endB ⟨#[]⟩ a0_2 a0_3 a0_4 a0_5 a0_6 l0_7.length)
  else if a0_0 = 4 then (impl_GoodPattern.f k a0_1).bind fun b => some ((!emB a0_1 && b) && endB ⟨#[]⟩ a0_2 a0_3 a0_4 a0_5 a0_6 l0_7.length)
  else if a0_0 = 5 then some (true && endB a0_1 a0_2 a0_3 a0_4 a0_5 a0_6 l0_7.length)
  else if a0_0 = 6 then some ((formM a0_1).2 && endB ⟨#[]⟩ a0_2 a0_3 a0_4 a0_5 a0_6 l0_7.length)
  else if a0_0 = 7 then (impl_goodMatcher.f k a0_2 a0_3 a0_4).bind fun b => some (b && endB a0_1 ⟨#[]⟩ 0 ⟨#[]⟩ a0_5 a0_6 l0_7.length)
  else if a0_0 = 8 then (impl_isName.f k a0_2).bind fun b => (impl_compares.f a0_5).bind fun c => some ((b && decide (a0_3 = 0) && emB a0_4 && c) && endB a0_1 ⟨#[]⟩ 0 ⟨#[]⟩ 0 0 l0_7.length)
  else if a0_0 = 9 then (impl_GoodTemplate.f k a0_1).bind fun b => some (b && endB ⟨#[]⟩ a0_2 a0_3 a0_4 a0_5 a0_6 l0_7.length)
  else if a0_0 = 10 then (impl_goodNames.f k l0_7).bind fun b => some ((decide (0 < l0_7.length) && b) && endB a0_1 a0_2 a0_3 a0_4 a0_5 a0_6 0)
  else if a0_0 = 11 then (impl_goodNames.f k l0_7).bind fun b => some ((decide (0 < l0_7.length) && b) && endB a0_1 a0_2 a0_3 a0_4 a0_5 a0_6 0)
  else some false
theorem impl_goodStage.mono : ∀ a0 a1 a2 a3 a4 a5 a6 a7 k, LeO (impl_goodStage.f k a0 a1 a2 a3 a4 a5 a6 a7) (impl_goodStage.f (k + 1) a0 a1 a2 a3 a4 a5 a6 a7) := by
  intro a0 a1 a2 a3 a4 a5 a6 a7 k
  unfold impl_goodStage.f
  repeat' first
      | (with_reducible exact LeO.refl _)
      | (with_reducible refine LeO.ite ?_ ?_)
      | (with_reducible refine LeO.bind ?_ (fun _ => ?_))
      | exact impl_printed.mono _ _ _
      | exact impl_GoodPattern.mono _ _
      | exact impl_goodMatcher.mono _ _ _ _
      | exact impl_isName.mono _ _
      | exact impl_GoodTemplate.mono _ _
      | exact impl_goodNames.mono _ _
theorem two_new (w : World) (o0 o1 : Obj) : ((w.alloc o0).alloc o1).heap[w.heap.size]? = some o0 ∧ ((w.alloc o0).alloc o1).heap[w.heap.size + 1]? = some o1 ∧ Below w.heap.size w ((w.alloc o0).alloc o1) := by
  have sz : ∀ (w : World) (o : Obj), (w.alloc o).heap.size = w.heap.size + 1 := fun w o => by first | rfl | (rw [World.alloc_eq]; exact Array.size_push _) | simp
  have b0 := blk_new w o0
  have b1 := blk_new (w.alloc o0) o1
  rw [sz w o0] at b1
  exact ⟨(Below.heap_alloc (w.alloc o0) o1 _ (blk_lt b0)).trans b0, b1, below_alloc (below_alloc (Below.refl _ _) _) _⟩
theorem emB_ne {s : ByteArray} (h : emB s = false) : (s.toList == ([] : List UInt8)) = false ∧ (s.toList != ([] : List UInt8)) = true ∧ s.toList.isEmpty = false ∧ (!s.toList.isEmpty) = true := by
  unfold emB at h
  have h := of_decide_eq_false h
  cases hs : s.toList with
  | nil => exact absurd hs h
  | cons a t => exact ⟨rfl, rfl, rfl, rfl⟩
theorem emB_eq {s : ByteArray} (h : emB s = true) : (s.toList == ([] : List UInt8)) = true ∧ (s.toList != ([] : List UInt8)) = false ∧ s.toList.isEmpty = true ∧ (!s.toList.isEmpty) = false := by
  unfold emB at h
  rw [of_decide_eq_true h]
  exact ⟨rfl, rfl, rfl, rfl⟩
/-- The two boxes: the argument and the copy that is emptied. -/
structure StAt (w W : World) (s z : Array Value) : Prop where
  s : W.heap[w.heap.size]? = some (.cells s 42 (0, 0))
  z : W.heap[w.heap.size + 1]? = some (.cells z 42 (0, 0))
  low : Below w.heap.size w W
theorem StAt.below {w W W' : World} {s z : Array Value} (h : StAt w W s z) (hb : Below W.heap.size W W') : StAt w W' s z := ⟨blk_below h.s hb, blk_below h.z hb, below_step h.low hb⟩
theorem StAt.set {w W : World} {s z z' : Array Value} (h : StAt w W s z) (j : Nat) (u : Value) (hz : z.setIfInBounds j u = z') : StAt w (W.setCell ⟨w.heap.size + 1, j, none⟩ u) s z' := by
  refine ⟨blk_far h.s (p := ⟨w.heap.size + 1, j, none⟩) (Nat.ne_of_lt (Nat.lt_succ_self _)) u, blk_put h.z j u hz, below_set h.low (Nat.le_succ _)⟩
set_option maxHeartbeats 8000000 in
set_option maxRecDepth 100000 in
theorem impl_goodStage.calls (k : Nat) (a0_0 : Int) (a0_1 a0_2 : ByteArray) (a0_3 : Int) (a0_4 : ByteArray) (a0_5 a0_6 : Int) (A0_7 : Option Addr) (c0_7 : Nat) (l0_7 : List ByteArray) (r : Bool) (w : World) (hr0_7 : Kd.C Kd.string w A0_7 l0_7.length l0_7) (hc0_7 : l0_7.length ≤ c0_7) (h : impl_goodStage.f k a0_0 a0_1 a0_2 a0_3 a0_4 a0_5 a0_6 l0_7 = some r) :
    Calls Try.prog 18 #[.agg #[.int .i64 a0_0, .string a0_1, .string a0_2, .int .i64 a0_3, .string a0_4, .int .i64 a0_5, .int .i64 a0_6, .slice A0_7 l0_7.length c0_7]] w fun e w' => e = .returned (.bool r) ∧ Below w.heap.size w w' := by
  have hu42 := Try.underlying42
  have hu39 := Try.underlying39
  have HC := Aside0.mk hr0_7
  have HCC := Aside0.mk hc0_7
  have H := Aside0.mk h
  clear hr0_7 hc0_7 h
  go_enter Try.func18, Try.ntmps18
  go_upto_region 4 with (fail)
  obtain ⟨n0, n1, nb⟩ := two_new w (.cells #[.int .i64 a0_0, .string a0_1, .string a0_2, .int .i64 a0_3, .string a0_4, .int .i64 a0_5, .int .i64 a0_6, .slice A0_7 l0_7.length c0_7] 42) (.cells #[.int .i64 0, .string a0_1, .string a0_2, .int .i64 a0_3, .string a0_4, .int .i64 a0_5, .int .i64 a0_6, .slice A0_7 l0_7.length c0_7] 42)
  have HS := Aside0.mk (StAt.mk n0 n1 nb)
  clear n0 n1 nb
  generalize (w.alloc (.cells #[.int .i64 a0_0, .string a0_1, .string a0_2, .int .i64 a0_3, .string a0_4, .int .i64 a0_5, .int .i64 a0_6, .slice A0_7 l0_7.length c0_7] 42)).alloc (.cells #[.int .i64 0, .string a0_1, .string a0_2, .int .i64 a0_3, .string a0_4, .int .i64 a0_5, .int .i64 a0_6, .slice A0_7 l0_7.length c0_7] 42) = W1 at HS ⊢
  have s0 : W1.cell? ⟨w.heap.size, 0, none⟩ = some (.int .i64 a0_0) := (blk_cell HS.out.s 0).trans rfl
  have s1 : W1.cell? ⟨w.heap.size, 1, none⟩ = some (.string a0_1) := (blk_cell HS.out.s 1).trans rfl
  have s2 : W1.cell? ⟨w.heap.size, 2, none⟩ = some (.string a0_2) := (blk_cell HS.out.s 2).trans rfl
  have s3 : W1.cell? ⟨w.heap.size, 3, none⟩ = some (.int .i64 a0_3) := (blk_cell HS.out.s 3).trans rfl
  have s4 : W1.cell? ⟨w.heap.size, 4, none⟩ = some (.string a0_4) := (blk_cell HS.out.s 4).trans rfl
  have s5 : W1.cell? ⟨w.heap.size, 5, none⟩ = some (.int .i64 a0_5) := (blk_cell HS.out.s 5).trans rfl
  have s6 : W1.cell? ⟨w.heap.size, 6, none⟩ = some (.int .i64 a0_6) := (blk_cell HS.out.s 6).trans rfl
  have s7 : W1.cell? ⟨w.heap.size, 7, none⟩ = some (.slice A0_7 l0_7.length c0_7) := (blk_cell HS.out.s 7).trans rfl
  have z1 : W1.cell? ⟨w.heap.size + 1, 1, none⟩ = some (.string a0_1) := (blk_cell HS.out.z 1).trans rfl
  have zf1 := blk_frozen HS.out.z 1
  have z2 : W1.cell? ⟨w.heap.size + 1, 2, none⟩ = some (.string a0_2) := (blk_cell HS.out.z 2).trans rfl
  have zf2 := blk_frozen HS.out.z 2
  have z3 : W1.cell? ⟨w.heap.size + 1, 3, none⟩ = some (.int .i64 a0_3) := (blk_cell HS.out.z 3).trans rfl
  have zf3 := blk_frozen HS.out.z 3
  have z4 : W1.cell? ⟨w.heap.size + 1, 4, none⟩ = some (.string a0_4) := (blk_cell HS.out.z 4).trans rfl
  have zf4 := blk_frozen HS.out.z 4
  have z5 : W1.cell? ⟨w.heap.size + 1, 5, none⟩ = some (.int .i64 a0_5) := (blk_cell HS.out.z 5).trans rfl
  have zf5 := blk_frozen HS.out.z 5
  have z6 : W1.cell? ⟨w.heap.size + 1, 6, none⟩ = some (.int .i64 a0_6) := (blk_cell HS.out.z 6).trans rfl
  have zf6 := blk_frozen HS.out.z 6
  have z7 : W1.cell? ⟨w.heap.size + 1, 7, none⟩ = some (.slice A0_7 l0_7.length c0_7) := (blk_cell HS.out.z 7).trans rfl
  have zf7 := blk_frozen HS.out.z 7
  go_upto_block 0 with (fail)
  go_cut [4] (fun v4 wc => ∃ (ok : Bool) (t n : ByteArray) (o : Int) (v : ByteArray) (op num : Int) (A : Option Addr) (len c : Nat), v4 = .bool ok ∧ Aside0 (StAt w wc #[.int .i64 a0_0, .string a0_1, .string a0_2, .int .i64 a0_3, .string a0_4, .int .i64 a0_5, .int .i64 a0_6, .slice A0_7 l0_7.length c0_7] #[.int .i64 0, .string t, .string n, .int .i64 o, .string v, .int .i64 op, .int .i64 num, .slice A len c]) ∧ Aside0 (r = (ok && endB t n o v op num len)))
  case first =>
    by_cases e1 : a0_0 = 1
    · subst e1
      have H1 := H.out
      unfold impl_goodStage.f at H1
      simp only [if_pos, Int.reduceEq, if_false, if_true] at H1
      clear H
      obtain ⟨b, hb, H2⟩ := Option.bind_eq_some_iff.1 H1
      replace H2 := (Option.some.inj H2).symm
      have HF := Aside0.mk hb
      clear H1 hb
      cases ht : emB a0_1 with
      | true =>
        obtain ⟨u0, u1, u2, u3⟩ := emB_eq ht
        rw [ht] at H2
        clear ht
        go_wp2
        go_meet
        case rel => exact ⟨false, _, _, _, _, _, _, _, _, _, rfl, ⟨(StAt.set (HS.out.below (by repeat (first | exact Below.refl _ _ | apply pw_below_drewN | apply below_drew1 | apply below_drew))) 1 (.string ⟨#[]⟩) rfl)⟩, ⟨H2⟩⟩
      | false =>
        obtain ⟨u0, u1, u2, u3⟩ := emB_ne ht
        rw [ht] at H2
        clear ht
        go_wp2_with (go_at_call 38; refine (impl_printed.calls k a0_1 100 b _ HF.out).mono ?_; rintro e w2 ⟨rfl, nd, rfl⟩)
        go_meet
        case rel => exact ⟨b, _, _, _, _, _, _, _, _, _, rfl, ⟨(StAt.set (HS.out.below (by repeat (first | exact Below.refl _ _ | apply pw_below_drewN | apply below_drew1 | apply below_drew))) 1 (.string ⟨#[]⟩) rfl)⟩, ⟨H2⟩⟩
    by_cases e2 : a0_0 = 2
    · subst e2
      have H1 := H.out
      unfold impl_goodStage.f at H1
      simp only [if_pos, Int.reduceEq, if_false, if_true] at H1
      clear H
      obtain ⟨b, hb, H2⟩ := Option.bind_eq_some_iff.1 H1
      replace H2 := (Option.some.inj H2).symm
      have HF := Aside0.mk hb
      clear H1 hb
      cases ht : emB a0_1 with
      | true =>
        obtain ⟨u0, u1, u2, u3⟩ := emB_eq ht
        rw [ht] at H2
        clear ht
        go_wp2
        go_meet
        case rel => exact ⟨false, _, _, _, _, _, _, _, _, _, rfl, ⟨(StAt.set (HS.out.below (by repeat (first | exact Below.refl _ _ | apply pw_below_drewN | apply below_drew1 | apply below_drew))) 1 (.string ⟨#[]⟩) rfl)⟩, ⟨H2⟩⟩
      | false =>
        obtain ⟨u0, u1, u2, u3⟩ := emB_ne ht
        rw [ht] at H2
        clear ht
        go_wp2_with (go_at_call 38; refine (impl_printed.calls k a0_1 100 b _ HF.out).mono ?_; rintro e w2 ⟨rfl, nd, rfl⟩)
        go_meet
        case rel => exact ⟨b, _, _, _, _, _, _, _, _, _, rfl, ⟨(StAt.set (HS.out.below (by repeat (first | exact Below.refl _ _ | apply pw_below_drewN | apply below_drew1 | apply below_drew))) 1 (.string ⟨#[]⟩) rfl)⟩, ⟨H2⟩⟩
    by_cases e3 : a0_0 = 3
    · subst e3
      have H1 := H.out
      unfold impl_goodStage.f at H1
      simp only [if_pos, Int.reduceEq, if_false, if_true] at H1
      clear H
      obtain ⟨b, hb, H2⟩ := Option.bind_eq_some_iff.1 H1
      replace H2 := (Option.some.inj H2).symm
      have HF := Aside0.mk hb
      clear H1 hb
      cases ht : emB a0_1 with
      | true =>
        obtain ⟨u0, u1, u2, u3⟩ := emB_eq ht
        rw [ht] at H2
        clear ht
        go_wp2
        go_meet
        case rel => exact ⟨false, _, _, _, _, _, _, _, _, _, rfl, ⟨(StAt.set (HS.out.below (by repeat (first | exact Below.refl _ _ | apply pw_below_drewN | apply below_drew1 | apply below_drew))) 1 (.string ⟨#[]⟩) rfl)⟩, ⟨H2⟩⟩
      | false =>
        obtain ⟨u0, u1, u2, u3⟩ := emB_ne ht
        rw [ht] at H2
        clear ht
        go_wp2_with (first
          | (go_at_call 39; refine (impl_GoodPattern.calls k a0_1 b _ HF.out).mono ?_; rintro e w2 ⟨rfl, hb2⟩
             replace HS := Aside0.mk (HS.out.below (below_step (by repeat (first | exact Below.refl _ _ | apply pw_below_drewN | apply below_drew1 | apply below_drew)) hb2))
             have y1 : w2.cell? ⟨w.heap.size + 1, 1, none⟩ = some (.string a0_1) := (blk_cell HS.out.z 1).trans rfl
             have yf1 := blk_frozen HS.out.z 1
             clear hb2))
        go_meet
        case rel => exact ⟨b, _, _, _, _, _, _, _, _, _, rfl, ⟨(StAt.set (HS.out.below (by repeat (first | exact Below.refl _ _ | apply pw_below_drewN | apply below_drew1 | apply below_drew))) 1 (.string ⟨#[]⟩) rfl)⟩, ⟨H2⟩⟩
    by_cases e4 : a0_0 = 4
    · subst e4
      have H1 := H.out
      unfold impl_goodStage.f at H1
      simp only [if_pos, Int.reduceEq, if_false, if_true] at H1
      clear H
      obtain ⟨b, hb, H2⟩ := Option.bind_eq_some_iff.1 H1
      replace H2 := (Option.some.inj H2).symm
      have HF := Aside0.mk hb
      clear H1 hb
      cases ht : emB a0_1 with
      | true =>
        obtain ⟨u0, u1, u2, u3⟩ := emB_eq ht
        rw [ht] at H2
        clear ht
        go_wp2
        go_meet
        case rel => exact ⟨false, _, _, _, _, _, _, _, _, _, rfl, ⟨(StAt.set (HS.out.below (by repeat (first | exact Below.refl _ _ | apply pw_below_drewN | apply below_drew1 | apply below_drew))) 1 (.string ⟨#[]⟩) rfl)⟩, ⟨H2⟩⟩
      | false =>
        obtain ⟨u0, u1, u2, u3⟩ := emB_ne ht
        rw [ht] at H2
        clear ht
        go_wp2_with (first
          | (go_at_call 39; refine (impl_GoodPattern.calls k a0_1 b _ HF.out).mono ?_; rintro e w2 ⟨rfl, hb2⟩
             replace HS := Aside0.mk (HS.out.below (below_step (by repeat (first | exact Below.refl _ _ | apply pw_below_drewN | apply below_drew1 | apply below_drew)) hb2))
             have y1 : w2.cell? ⟨w.heap.size + 1, 1, none⟩ = some (.string a0_1) := (blk_cell HS.out.z 1).trans rfl
             have yf1 := blk_frozen HS.out.z 1
             clear hb2))
        go_meet
        case rel => exact ⟨b, _, _, _, _, _, _, _, _, _, rfl, ⟨(StAt.set (HS.out.below (by repeat (first | exact Below.refl _ _ | apply pw_below_drewN | apply below_drew1 | apply below_drew))) 1 (.string ⟨#[]⟩) rfl)⟩, ⟨H2⟩⟩
    by_cases e5 : a0_0 = 5
    · subst e5
      have H1 := H.out
      unfold impl_goodStage.f at H1
      simp only [if_pos, Int.reduceEq, if_false, if_true] at H1
      clear H
      have H2 := (Option.some.inj H1).symm
      clear H1
      go_wp2
      go_meet
      case rel => exact ⟨true, _, _, _, _, _, _, _, _, _, rfl, ⟨(HS.out.below (by repeat (first | exact Below.refl _ _ | apply pw_below_drewN | apply below_drew1 | apply below_drew)))⟩, ⟨H2⟩⟩
    by_cases e6 : a0_0 = 6
    · subst e6
      have H1 := H.out
      unfold impl_goodStage.f at H1
      simp only [if_pos, Int.reduceEq, if_false, if_true] at H1
      clear H
      have H2 := (Option.some.inj H1).symm
      clear H1
      have HF := Aside0.mk (fun W => impl_formOf.calls a0_1 W)
      generalize (formM a0_1).2 = b at HF H2
      generalize (formM a0_1).1 = hl at HF
      go_wp2_with (first
        | (go_at_call 40; refine (HF.out _).mono ?_; rintro e w2 ⟨v0, rfl, _, hb2⟩
           replace HS := Aside0.mk (HS.out.below (below_step (by repeat (first | exact Below.refl _ _ | apply pw_below_drewN | apply below_drew1 | apply below_drew)) hb2))
           have y1 : w2.cell? ⟨w.heap.size + 1, 1, none⟩ = some (.string a0_1) := (blk_cell HS.out.z 1).trans rfl
           have yf1 := blk_frozen HS.out.z 1
           clear hb2))
      go_meet
      case rel => exact ⟨b, _, _, _, _, _, _, _, _, _, rfl, ⟨(StAt.set (HS.out.below (by repeat (first | exact Below.refl _ _ | apply pw_below_drewN | apply below_drew1 | apply below_drew))) 1 (.string ⟨#[]⟩) rfl)⟩, ⟨H2⟩⟩
    by_cases e7 : a0_0 = 7
    · subst e7
      have H1 := H.out
      unfold impl_goodStage.f at H1
      simp only [if_pos, Int.reduceEq, if_false, if_true] at H1
      clear H
      obtain ⟨b, hb, H2⟩ := Option.bind_eq_some_iff.1 H1
      replace H2 := (Option.some.inj H2).symm
      have HF := Aside0.mk hb
      clear H1 hb
      go_wp2_with (first
        | (go_at_call 36; refine (impl_goodMatcher.calls k a0_2 a0_3 a0_4 b _ HF.out).mono ?_; rintro e w2 ⟨rfl, hb2⟩
           replace HS := Aside0.mk (HS.out.below (below_step (by repeat (first | exact Below.refl _ _ | apply pw_below_drewN | apply below_drew1 | apply below_drew)) hb2))
           have y2 : w2.cell? ⟨w.heap.size + 1, 2, none⟩ = some (.string a0_2) := (blk_cell HS.out.z 2).trans rfl
           have yf2 := blk_frozen HS.out.z 2
           have y3 : w2.cell? ⟨w.heap.size + 1, 3, none⟩ = some (.int .i64 a0_3) := (blk_cell HS.out.z 3).trans rfl
           have yf3 := blk_frozen HS.out.z 3
           have y4 : w2.cell? ⟨w.heap.size + 1, 4, none⟩ = some (.string a0_4) := (blk_cell HS.out.z 4).trans rfl
           have yf4 := blk_frozen HS.out.z 4
           clear hb2))
      go_meet
      case rel => exact ⟨b, _, _, _, _, _, _, _, _, _, rfl, ⟨(StAt.set (StAt.set (StAt.set (HS.out.below (by repeat (first | exact Below.refl _ _ | apply pw_below_drewN | apply below_drew1 | apply below_drew))) 2 (.string ⟨#[]⟩) rfl) 3 (.int .i64 0) rfl) 4 (.string ⟨#[]⟩) rfl)⟩, ⟨H2⟩⟩
    by_cases e8 : a0_0 = 8
    · subst e8
      have H1 := H.out
      unfold impl_goodStage.f at H1
      simp only [if_pos, Int.reduceEq, if_false, if_true] at H1
      clear H
      obtain ⟨b, hb, H1⟩ := Option.bind_eq_some_iff.1 H1
      obtain ⟨cc, hcc, H2⟩ := Option.bind_eq_some_iff.1 H1
      replace H2 := (Option.some.inj H2).symm
      have HF := Aside0.mk hb
      have HG := Aside0.mk hcc
      clear H1 hb hcc
      cases b with
      | false =>
        go_wp2_with (go_at_call 41; refine (impl_isName.calls k a0_2 _ _ HF.out).mono ?_; rintro e w2 ⟨rfl, nd, rfl⟩)
        go_meet
        case rel => exact ⟨false, _, _, _, _, _, _, _, _, _, rfl, ⟨(StAt.set (StAt.set (StAt.set (StAt.set (StAt.set (HS.out.below (by repeat (first | exact Below.refl _ _ | apply pw_below_drewN | apply below_drew1 | apply below_drew))) 2 (.string ⟨#[]⟩) rfl) 3 (.int .i64 0) rfl) 4 (.string ⟨#[]⟩) rfl) 5 (.int .i64 0) rfl) 6 (.int .i64 0) rfl)⟩, ⟨H2⟩⟩
      | true =>
        by_cases h3 : a0_3 = 0
        · rw [decide_eq_true h3] at H2
          have h3b : (a0_3 == 0) = true := beq_iff_eq.2 h3
          clear h3
          cases ht : emB a0_4 with
          | true =>
            obtain ⟨u0, u1, u2, u3⟩ := emB_eq ht
            rw [ht] at H2
            clear ht
            go_wp2_with (first | (go_at_call 41; refine (impl_isName.calls k a0_2 _ _ HF.out).mono ?_; rintro e w2 ⟨rfl, nd, rfl⟩) | (go_at_call 42; refine (impl_compares.calls a0_5 _ _ HG.out).mono ?_; rintro e w3 ⟨rfl, nd3, rfl⟩))
            go_meet
            case rel => exact ⟨cc, _, _, _, _, _, _, _, _, _, rfl, ⟨(StAt.set (StAt.set (StAt.set (StAt.set (StAt.set (HS.out.below (by repeat (first | exact Below.refl _ _ | apply pw_below_drewN | apply below_drew1 | apply below_drew))) 2 (.string ⟨#[]⟩) rfl) 3 (.int .i64 0) rfl) 4 (.string ⟨#[]⟩) rfl) 5 (.int .i64 0) rfl) 6 (.int .i64 0) rfl)⟩, ⟨H2⟩⟩
          | false =>
            obtain ⟨u0, u1, u2, u3⟩ := emB_ne ht
            rw [ht] at H2
            clear ht
            go_wp2_with (go_at_call 41; refine (impl_isName.calls k a0_2 _ _ HF.out).mono ?_; rintro e w2 ⟨rfl, nd, rfl⟩)
            go_meet
            case rel => exact ⟨false, _, _, _, _, _, _, _, _, _, rfl, ⟨(StAt.set (StAt.set (StAt.set (StAt.set (StAt.set (HS.out.below (by repeat (first | exact Below.refl _ _ | apply pw_below_drewN | apply below_drew1 | apply below_drew))) 2 (.string ⟨#[]⟩) rfl) 3 (.int .i64 0) rfl) 4 (.string ⟨#[]⟩) rfl) 5 (.int .i64 0) rfl) 6 (.int .i64 0) rfl)⟩, ⟨H2⟩⟩
        · rw [decide_eq_false h3] at H2
          have h3b : (a0_3 == 0) = false := beq_eq_false_iff_ne.2 h3
          clear h3
          go_wp2_with (go_at_call 41; refine (impl_isName.calls k a0_2 _ _ HF.out).mono ?_; rintro e w2 ⟨rfl, nd, rfl⟩)
          go_meet
          case rel => exact ⟨false, _, _, _, _, _, _, _, _, _, rfl, ⟨(StAt.set (StAt.set (StAt.set (StAt.set (StAt.set (HS.out.below (by repeat (first | exact Below.refl _ _ | apply pw_below_drewN | apply below_drew1 | apply below_drew))) 2 (.string ⟨#[]⟩) rfl) 3 (.int .i64 0) rfl) 4 (.string ⟨#[]⟩) rfl) 5 (.int .i64 0) rfl) 6 (.int .i64 0) rfl)⟩, ⟨H2⟩⟩
    by_cases e9 : a0_0 = 9
    · subst e9
      have H1 := H.out
      unfold impl_goodStage.f at H1
      simp only [if_pos, Int.reduceEq, if_false, if_true] at H1
      clear H
      obtain ⟨b, hb, H2⟩ := Option.bind_eq_some_iff.1 H1
      replace H2 := (Option.some.inj H2).symm
      have HF := Aside0.mk hb
      clear H1 hb
      go_wp2_with (go_at_call 43; refine (impl_GoodTemplate.calls k a0_1 b _ HF.out).mono ?_; rintro e w2 ⟨rfl, nd, rfl⟩)
      go_meet
      case rel => exact ⟨b, _, _, _, _, _, _, _, _, _, rfl, ⟨(StAt.set (HS.out.below (by repeat (first | exact Below.refl _ _ | apply pw_below_drewN | apply below_drew1 | apply below_drew))) 1 (.string ⟨#[]⟩) rfl)⟩, ⟨H2⟩⟩
    by_cases e10 : a0_0 = 10
    · subst e10
      have H1 := H.out
      unfold impl_goodStage.f at H1
      simp only [if_pos, Int.reduceEq, if_false, if_true] at H1
      clear H
      obtain ⟨b, hb, H2⟩ := Option.bind_eq_some_iff.1 H1
      replace H2 := (Option.some.inj H2).symm
      have HF := Aside0.mk hb
      clear H1 hb
      by_cases hl : 0 < l0_7.length
      · rw [decide_eq_true hl] at H2
        have l0 := decide_eq_true hl
        have l1 : decide (0 < (l0_7.length : Int)) = true := decide_eq_true (by omega)
        clear hl
        have HC1 := Aside0.mk (Kd.C_below HC.out HS.out.low)
        go_wp2_with (first
          | (go_at_call 44; refine (impl_goodNames.calls k A0_7 c0_7 l0_7 b _ (Kd.C_below HC1.out (by repeat (first | exact Below.refl _ _ | apply pw_below_drewN | apply below_drew1 | apply below_drew))) HCC.out HF.out).mono ?_; rintro e w2 ⟨rfl, hb2⟩
             replace HS := Aside0.mk (HS.out.below (below_step (by repeat (first | exact Below.refl _ _ | apply pw_below_drewN | apply below_drew1 | apply below_drew)) hb2))
             have y7 : w2.cell? ⟨w.heap.size + 1, 7, none⟩ = some (.slice A0_7 l0_7.length c0_7) := (blk_cell HS.out.z 7).trans rfl
             have yf7 := blk_frozen HS.out.z 7
             clear hb2))
        go_meet
        case rel => exact ⟨b, _, _, _, _, _, _, _, _, _, rfl, ⟨(StAt.set (HS.out.below (by repeat (first | exact Below.refl _ _ | apply pw_below_drewN | apply below_drew1 | apply below_drew))) 7 (.slice none 0 0) rfl)⟩, ⟨H2⟩⟩
      · rw [decide_eq_false hl] at H2
        have l0 := decide_eq_false hl
        have l1 : decide (0 < (l0_7.length : Int)) = false := decide_eq_false (by omega)
        clear hl
        go_wp2
        go_meet
        case rel => exact ⟨false, _, _, _, _, _, _, _, _, _, rfl, ⟨(StAt.set (HS.out.below (by repeat (first | exact Below.refl _ _ | apply pw_below_drewN | apply below_drew1 | apply below_drew))) 7 (.slice none 0 0) rfl)⟩, ⟨H2⟩⟩
    by_cases e11 : a0_0 = 11
    · subst e11
      have H1 := H.out
      unfold impl_goodStage.f at H1
      simp only [if_pos, Int.reduceEq, if_false, if_true] at H1
      clear H
      obtain ⟨b, hb, H2⟩ := Option.bind_eq_some_iff.1 H1
      replace H2 := (Option.some.inj H2).symm
      have HF := Aside0.mk hb
      clear H1 hb
      by_cases hl : 0 < l0_7.length
      · rw [decide_eq_true hl] at H2
        have l0 := decide_eq_true hl
        have l1 : decide (0 < (l0_7.length : Int)) = true := decide_eq_true (by omega)
        clear hl
        have HC1 := Aside0.mk (Kd.C_below HC.out HS.out.low)
        go_wp2_with (first
          | (go_at_call 44; refine (impl_goodNames.calls k A0_7 c0_7 l0_7 b _ (Kd.C_below HC1.out (by repeat (first | exact Below.refl _ _ | apply pw_below_drewN | apply below_drew1 | apply below_drew))) HCC.out HF.out).mono ?_; rintro e w2 ⟨rfl, hb2⟩
             replace HS := Aside0.mk (HS.out.below (below_step (by repeat (first | exact Below.refl _ _ | apply pw_below_drewN | apply below_drew1 | apply below_drew)) hb2))
             have y7 : w2.cell? ⟨w.heap.size + 1, 7, none⟩ = some (.slice A0_7 l0_7.length c0_7) := (blk_cell HS.out.z 7).trans rfl
             have yf7 := blk_frozen HS.out.z 7
             clear hb2))
        go_meet
        case rel => exact ⟨b, _, _, _, _, _, _, _, _, _, rfl, ⟨(StAt.set (HS.out.below (by repeat (first | exact Below.refl _ _ | apply pw_below_drewN | apply below_drew1 | apply below_drew))) 7 (.slice none 0 0) rfl)⟩, ⟨H2⟩⟩
      · rw [decide_eq_false hl] at H2
        have l0 := decide_eq_false hl
        have l1 : decide (0 < (l0_7.length : Int)) = false := decide_eq_false (by omega)
        clear hl
        go_wp2
        go_meet
        case rel => exact ⟨false, _, _, _, _, _, _, _, _, _, rfl, ⟨(StAt.set (HS.out.below (by repeat (first | exact Below.refl _ _ | apply pw_below_drewN | apply below_drew1 | apply below_drew))) 7 (.slice none 0 0) rfl)⟩, ⟨H2⟩⟩
    have HV := Aside0.mk (show r = false by have H1 := H.out; unfold impl_goodStage.f at H1; rw [if_neg e1, if_neg e2, if_neg e3, if_neg e4, if_neg e5, if_neg e6, if_neg e7, if_neg e8, if_neg e9, if_neg e10, if_neg e11] at H1; exact (Option.some.inj H1).symm)
    have f1 : (a0_0 == 1) = false := beq_eq_false_iff_ne.2 e1
    have f2 : (a0_0 == 2) = false := beq_eq_false_iff_ne.2 e2
    have f3 : (a0_0 == 3) = false := beq_eq_false_iff_ne.2 e3
    have f4 : (a0_0 == 4) = false := beq_eq_false_iff_ne.2 e4
    have f5 : (a0_0 == 5) = false := beq_eq_false_iff_ne.2 e5
    have f6 : (a0_0 == 6) = false := beq_eq_false_iff_ne.2 e6
    have f7 : (a0_0 == 7) = false := beq_eq_false_iff_ne.2 e7
    have f8 : (a0_0 == 8) = false := beq_eq_false_iff_ne.2 e8
    have f9 : (a0_0 == 9) = false := beq_eq_false_iff_ne.2 e9
    have f10 : (a0_0 == 10) = false := beq_eq_false_iff_ne.2 e10
    have f11 : (a0_0 == 11) = false := beq_eq_false_iff_ne.2 e11
    clear H e1 e2 e3 e4 e5 e6 e7 e8 e9 e10 e11
    go_wp2
    go_ret
    exact ⟨by rw [HV.out]; first | rfl | skip, (HS.out.below (by repeat (first | exact Below.refl _ _ | apply pw_below_drewN | apply below_drew1 | apply below_drew))).low⟩
  case rest =>
    obtain ⟨ok, t, n, oo, v, op, num, A, len, c, rfl, HZ, HV⟩ := hcut
    clear HS H s0 s1 s2 s3 s4 s5 s6 s7 z1 zf1 z2 zf2 z3 zf3 z4 zf4 z5 zf5 z6 zf6 z7 zf7
    have z1 : wc.cell? ⟨w.heap.size + 1, 1, none⟩ = some (.string t) := (blk_cell HZ.out.z 1).trans rfl
    have z2 : wc.cell? ⟨w.heap.size + 1, 2, none⟩ = some (.string n) := (blk_cell HZ.out.z 2).trans rfl
    have z3 : wc.cell? ⟨w.heap.size + 1, 3, none⟩ = some (.int .i64 oo) := (blk_cell HZ.out.z 3).trans rfl
    have z4 : wc.cell? ⟨w.heap.size + 1, 4, none⟩ = some (.string v) := (blk_cell HZ.out.z 4).trans rfl
    have z5 : wc.cell? ⟨w.heap.size + 1, 5, none⟩ = some (.int .i64 op) := (blk_cell HZ.out.z 5).trans rfl
    have z6 : wc.cell? ⟨w.heap.size + 1, 6, none⟩ = some (.int .i64 num) := (blk_cell HZ.out.z 6).trans rfl
    have z7 : wc.cell? ⟨w.heap.size + 1, 7, none⟩ = some (.slice A len c) := (blk_cell HZ.out.z 7).trans rfl
    cases ok with
    | false =>
      go_wp2
      go_ret
      exact ⟨by rw [HV.out]; unfold endB; rfl, (HZ.out.below (by repeat (first | exact Below.refl _ _ | apply pw_below_drewN | apply below_drew1 | apply below_drew))).low⟩
    | true =>
      cases ht : emB t with
      | false =>
        obtain ⟨u0, u1, u2, u3⟩ := emB_ne ht
        replace HV := Aside0.mk (show r = false by rw [HV.out]; unfold endB; rw [ht]; rfl)
        clear ht
        go_wp2
        go_ret
        exact ⟨by rw [HV.out]; first | rfl | skip, (HZ.out.below (by repeat (first | exact Below.refl _ _ | apply pw_below_drewN | apply below_drew1 | apply below_drew))).low⟩
      | true =>
        obtain ⟨u0, u1, u2, u3⟩ := emB_eq ht
        replace HV := Aside0.mk (show r = ((emB n && (decide (oo = 0) && emB v)) && decide (op = 0) && decide (num = 0) && decide (len = 0)) by rw [HV.out]; unfold endB; rw [ht]; simp only [Bool.true_and])
        clear ht
        have hem : ∀ s : ByteArray, emB s = true → (s.toList = ([] : List UInt8)) = True := fun s h => eq_true (of_decide_eq_true h)
        have hem' : ∀ s : ByteArray, emB s = false → (s.toList = ([] : List UInt8)) = False := fun s h => eq_false (of_decide_eq_false h)
        cases hn : emB n with
        | false =>
          replace HV := Aside0.mk (show r = false by rw [HV.out, hn]; rfl)
          obtain ⟨n0, n1, n2, n3⟩ := emB_ne hn
          have n4 := hem' n hn
          clear hn hem hem'
          go_wp2
          go_ret
          exact ⟨by rw [HV.out]; first | rfl | skip, (HZ.out.below (by repeat (first | exact Below.refl _ _ | apply pw_below_drewN | apply below_drew1 | apply below_drew))).low⟩
        | true =>
        obtain ⟨n0, n1, n2, n3⟩ := emB_eq hn
        have n4 := hem n hn
        rw [hn] at HV
        clear hn
        by_cases ho : oo = 0
        rotate_left
        · replace HV := Aside0.mk (show r = false by rw [HV.out, decide_eq_false ho]; rfl)
          have o1 := eq_false ho
          have o2 : (oo == 0) = false := beq_eq_false_iff_ne.2 ho
          clear ho hem hem'
          go_wp2
          go_ret
          exact ⟨by rw [HV.out]; first | rfl | skip, (HZ.out.below (by repeat (first | exact Below.refl _ _ | apply pw_below_drewN | apply below_drew1 | apply below_drew))).low⟩
        rw [decide_eq_true ho] at HV
        have o1 := eq_true ho
        have o2 : (oo == 0) = true := beq_iff_eq.2 ho
        clear ho
        cases hv : emB v with
        | false =>
          replace HV := Aside0.mk (show r = false by rw [HV.out, hv]; rfl)
          obtain ⟨v0, v1, v2, v3⟩ := emB_ne hv
          have v4 := hem' v hv
          clear hv hem hem'
          go_wp2
          go_ret
          exact ⟨by rw [HV.out]; first | rfl | skip, (HZ.out.below (by repeat (first | exact Below.refl _ _ | apply pw_below_drewN | apply below_drew1 | apply below_drew))).low⟩
        | true =>
          obtain ⟨v0, v1, v2, v3⟩ := emB_eq hv
          have v4 := hem v hv
          replace HV := Aside0.mk (show r = (decide (op = 0) && decide (num = 0) && decide (len = 0)) by rw [HV.out, hv]; simp only [Bool.true_and])
          clear hv hem hem'
          by_cases g1 : op = 0
          · rw [decide_eq_true g1] at HV
            have g1b : (op == 0) = true := beq_iff_eq.2 g1
            have g1c := eq_true g1
            clear g1
            by_cases g2 : num = 0
            · rw [decide_eq_true g2] at HV
              have g2b : (num == 0) = true := beq_iff_eq.2 g2
              have g2c := eq_true g2
              clear g2
              by_cases g3 : len = 0
              · rw [decide_eq_true g3] at HV
                have g3b : ((len : Int) == 0) = true := beq_iff_eq.2 (by omega)
                have g3c : (len == 0) = true := beq_iff_eq.2 g3
                have g3d := eq_true g3
                clear g3
                go_wp2
                go_ret
                exact ⟨by rw [HV.out]; first | rfl | skip, (HZ.out.below (by repeat (first | exact Below.refl _ _ | apply pw_below_drewN | apply below_drew1 | apply below_drew))).low⟩
              · rw [decide_eq_false g3] at HV
                have g3b : ((len : Int) == 0) = false := beq_eq_false_iff_ne.2 (by omega)
                have g3c : (len == 0) = false := beq_eq_false_iff_ne.2 g3
                have g3d := eq_false g3
                clear g3
                go_wp2
                go_ret
                exact ⟨by rw [HV.out]; first | rfl | skip, (HZ.out.below (by repeat (first | exact Below.refl _ _ | apply pw_below_drewN | apply below_drew1 | apply below_drew))).low⟩
            · rw [decide_eq_false g2] at HV
              have g2b : (num == 0) = false := beq_eq_false_iff_ne.2 g2
              have g2c := eq_false g2
              clear g2
              go_wp2
              go_ret
              exact ⟨by rw [HV.out]; first | rfl | skip, (HZ.out.below (by repeat (first | exact Below.refl _ _ | apply pw_below_drewN | apply below_drew1 | apply below_drew))).low⟩
          · rw [decide_eq_false g1] at HV
            have g1b : (op == 0) = false := beq_eq_false_iff_ne.2 g1
            have g1c := eq_false g1
            clear g1
            go_wp2
            go_ret
            exact ⟨by rw [HV.out]; first | rfl | skip, (HZ.out.below (by repeat (first | exact Below.refl _ _ | apply pw_below_drewN | apply below_drew1 | apply below_drew))).low⟩
end Go.Proofs.Ytafphfdnoejdeaa.PFnExactGoodPipe
