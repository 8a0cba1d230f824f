/- slices.SortStableFunc over calls by their From: a row of the call's own holds the same calls, none that begins earlier behind one that begins later. -/
import Derived.Test.YtalhphclogbpnaaStStable
import Derived.Test.YtalhphclogbpnaaPFnCriticalx2
import Derived.Test.YtalhphclogbpnaaHTraceMap
namespace Go.Proofs.Ytalhphclogbpnaa.PFnCritical
open Go.RowKit Go.Shelf Go.Proofs.YtalhphclogbpnaaW.PrintWords Go.Proofs.YtalhphclogbpnaaW.PrintLast Go.Proofs.YtalhphclogbpnaaW.PrintMore
set_option linter.unusedVariables false
set_option linter.unusedSimpArgs false
abbrev kC := k34
instance : Inhabited SC := ⟨z34⟩
def encC (x : SC) : List Value := [.int .i64 x.f0, .int .i64 x.f1, .string x.f2, .string x.f3, .int .i64 x.f4, .int .i64 x.f5, .bool x.f6]
def cfC (x y : SC) : Int := if x.f4 < y.f4 then -1 else if x.f4 > y.f4 then 1 else 0
theorem ltC (x y : SC) : ltOf cfC x y = decide (x.f4 < y.f4) := by
  unfold ltOf cfC
  by_cases h : x.f4 < y.f4
  · rw [if_pos h]; simp [h]
  · rw [if_neg h]
    by_cases h2 : x.f4 > y.f4
    · rw [if_pos h2]; simp [h]
    · rw [if_neg h2]; simp [h]
theorem swoC : Go.Sort.SWO (ltOf cfC) where
  irrefl x := by rw [ltC]; exact decide_eq_false (by omega)
  trans x y z h1 h2 := by
    rw [ltC] at *
    have := of_decide_eq_true h1
    have := of_decide_eq_true h2
    exact decide_eq_true (by omega)
  ntrans x y z h1 h2 := by
    rw [ltC] at *
    have := of_decide_eq_false h1
    have := of_decide_eq_false h2
    exact decide_eq_false (by omega)
theorem cmpC (a b : Int) : cmp_Compare_int.f a b = some (if a < b then -1 else if a > b then 1 else 0) := by
  unfold cmp_Compare_int.f cmp_isNaN_int.f
  simp only [Option.bind_some, bne_self_eq_false, Bool.false_eq_true, if_false]
  split
  · rfl
  · split <;> rfl
set_option maxHeartbeats 1000000 in
theorem closureC (x y : SC) (W : World) : Calls Try.prog 19 #[.agg #[.int .i64 x.f0, .int .i64 x.f1, .string x.f2, .string x.f3, .int .i64 x.f4, .int .i64 x.f5, .bool x.f6], .agg #[.int .i64 y.f0, .int .i64 y.f1, .string y.f2, .string y.f3, .int .i64 y.f4, .int .i64 y.f5, .bool y.f6]] W fun e w' => e = .returned (.int .i64 (cfC x y)) ∧ ∃ q os', w' = Go.Sort.grow (W.drewN q) os' := by
  have hcon := fun W' => cmp_Compare_int.calls x.f4 y.f4 _ W' (cmpC x.f4 y.f4)
  have e : (if x.f4 < y.f4 then -1 else if x.f4 > y.f4 then 1 else 0) = cfC x y := rfl
  rw [e] at hcon
  generalize cfC x y = r at hcon ⊢
  go_enter Try.func19, Try.ntmps19
  go_wp2_with (go_at_call 20; refine (hcon _).mono ?_; rintro e w' ⟨rfl, m, rfl⟩)
  go_ret
  exact ⟨rfl, m, _, by rw [Go.Sort.alloc_eq_grow, Go.Sort.alloc_eq_grow, Go.Sort.grow_grow]; rfl⟩
/-! ### The program bears the family -/
def renC : Ren := { f := fun x => match x with | 20 => 39 | _ => 0, t := fun x => match x with | 0 => 0 | 3 => 3 | 4 => 4 | 22 => 23 | 24 => 34 | 25 => 51 | _ => 0, g := fun x => x }
set_option maxRecDepth 100000 in
theorem lays20 : SlLaysF0.n20 Try.prog renC := {
  mixed := by kernel_rfl
  f20 := ⟨Try.f39.name, by kernel_rfl, Try.func39.trans (by kernel_rfl)⟩
  t0 := Try.underlying0
  a0 := Try.isAgg0
  z0 := Try.sizeOf0
  v0 := Try.zeroValue0
  t3 := Try.underlying3
  a3 := Try.isAgg3
  z3 := Try.sizeOf3
  v3 := Try.zeroValue3
  t4 := Try.underlying4
  a4 := Try.isAgg4
  z4 := Try.sizeOf4
  v4 := Try.zeroValue4
  t22 := Try.underlying23
  a22 := Try.isAgg23
  z22 := Try.sizeOf23
  v22 := Try.zeroValue23
  t25 := Try.underlying51
  a25 := Try.isAgg51
  z25 := Try.sizeOf51
  v25 := Try.zeroValue51
  }
set_option maxRecDepth 100000 in
theorem layC : St.Lay Try.prog := {
  mixed := by kernel_rfl
  stableCmpFunc := Try.func32
  symMergeCmpFunc := Try.func40
  rotateCmpFunc := Try.func42
  swapRangeCmpFunc := Try.func43
  t0 := Try.underlying0
  a0 := Try.isAgg0
  z0 := Try.sizeOf0
  v0 := Try.zeroValue0
  t3 := Try.underlying3
  a3 := Try.isAgg3
  z3 := Try.sizeOf3
  v3 := Try.zeroValue3
  t4 := Try.underlying4
  a4 := Try.isAgg4
  z4 := Try.sizeOf4
  v4 := Try.zeroValue4
  tsl := Try.underlying23
  asl := Try.isAgg23
  zsl := Try.sizeOf23
  vsl := Try.zeroValue23
  tfn := Try.underlying51
  afn := Try.isAgg51
  zfn := Try.sizeOf51
  vfn := Try.zeroValue51
  tui := Try.underlying70
  aui := Try.isAgg70
  zui := Try.sizeOf70
  vui := Try.zeroValue70
  }
/-! ### The row of calls, as the sort wants it -/
theorem flat_at (d : Array SC) (j r : Nat) (hj : j < d.size) (hr : r < 7) : (Go.Sort.flatK encC 7 d)[j * 7 + r]! = (encC d[j]!)[r]! := by
  rw [Go.Sort.get_flatK encC 7 d (j * 7 + r) (by omega), show (j * 7 + r) / 7 = j by omega, show (j * 7 + r) % 7 = r by omega]
theorem rowC_cells {w : World} {base : Nat} {ok : Nat → Prop} {v : Value} {out : List SC} (h : Kd.R kC 34 w base ok v out) (hne : out ≠ []) :
    ∃ g c cur, v = .slice (some ⟨g, 0, none⟩) out.length c ∧ ok g ∧ base ≤ g ∧ w.heap[g]? = some (.cells cur 34 (0, 0)) ∧ out.length ≤ c ∧ c ≤ maxLen ∧ cur.size = c * 7 ∧
      ∀ j, (hj : j < out.length) → ∀ r, r < 7 → cur[j * 7 + r]? = (encC out[j])[r]? := by
  obtain ⟨h0, inner, ho, hr⟩ := h
  obtain ⟨hl, ho⟩ := ho
  rcases ho with ⟨_, hn⟩ | ⟨g, c, cur, rfl, hb, hh, hc, hm, hs, ht⟩
  · exact absurd (List.length_eq_zero_iff.1 hn) hne
  · refine ⟨g, c, cur, rfl, h0 g rfl, hb, hh, hc, hm, hs, fun j hj r hr7 => ?_⟩
    have hp := hr.2 j out[j] (List.getElem?_eq_getElem hj)
    have e2 : (inner.drop (j * 7)).take 7 = encC out[j] := k34_openM hp
    have hl2 : inner.length = out.length * 7 := hl
    have ht : cur.toList.take (out.length * 7) = inner := ht
    rw [← e2, List.getElem?_take_of_lt hr7, List.getElem?_drop, ← ht, List.getElem?_take_of_lt (by omega), Array.getElem?_toList]
theorem rowC_of {w : World} {base : Nat} {ok : Nat → Prop} {out : List SC} (g c : Nat) (cur : Array Value) (h0 : ok g) (hb : base ≤ g) (hh : w.heap[g]? = some (.cells cur 34 (0, 0))) (hc : out.length ≤ c) (hm : c ≤ maxLen) (hs : cur.size = c * 7)
    (hx : ∀ j, (hj : j < out.length) → ∀ r, r < 7 → cur[j * 7 + r]? = (encC out[j])[r]?) : Kd.R kC 34 w base ok (.slice (some ⟨g, 0, none⟩) out.length c) out := by
  have hcl : cur.toList.length = c * 7 := by rw [Array.length_toList]; exact hs
  refine ⟨fun k hk => ?_, cur.toList.take (out.length * 7), ⟨?_, Or.inr ⟨g, c, cur, rfl, hb, hh, hc, hm, hs, rfl⟩⟩, ?_, fun j p hp => ?_⟩
  · have : g = k := by injection hk
    rw [← this]; exact h0
  · show (cur.toList.take (out.length * 7)).length = out.length * 7
    rw [List.length_take, hcl]; omega
  · show (cur.toList.take (out.length * 7)).length = out.length * 7
    rw [List.length_take, hcl]; omega
  · obtain ⟨hj, rfl⟩ := List.getElem?_eq_some_iff.1 hp
    have e : ((cur.toList.take (out.length * 7)).drop (j * 7)).take 7 = encC out[j] := by
      apply List.ext_getElem?
      intro r
      by_cases hr : r < 7
      · rw [List.getElem?_take_of_lt hr, List.getElem?_drop, List.getElem?_take_of_lt (by omega), Array.getElem?_toList]
        exact hx j hj r hr
      · rw [List.getElem?_eq_none (by rw [List.length_take]; omega), List.getElem?_eq_none (by show 7 ≤ r; omega)]
    show kC.M w base _ out[j] (((cur.toList.take (out.length * 7)).drop (j * 7)).take 7)
    rw [e]
    exact k34_mkM _ _ _ _
theorem holdsC {w : World} {g : Nat} {cur : Array Value} {out : List SC} (hh : w.heap[g]? = some (.cells cur 34 (0, 0))) (hx : ∀ j, (hj : j < out.length) → ∀ r, r < 7 → cur[j * 7 + r]? = (encC out[j])[r]?) : Go.Sort.HoldsK encC 7 w g 0 out.toArray := fun j hj => by
  rw [Go.Sort.size_flatK] at hj
  have hs : out.toArray.size = out.length := rfl
  have hj2 : j / 7 < out.length := by omega
  have hr : j % 7 < 7 := Nat.mod_lt _ (by decide)
  have e := flat_at out.toArray (j / 7) (j % 7) hj2 hr
  have ej : j / 7 * 7 + j % 7 = j := by omega
  rw [ej] at e
  have eo : out.toArray[j / 7]! = out[j / 7] := getElem!_pos out.toArray (j / 7) hj2
  rw [eo] at e
  have x := hx (j / 7) hj2 (j % 7) hr
  rw [ej] at x
  refine ⟨?_, by rw [Nat.zero_add]; exact blk_frozen hh j⟩
  show w.cell? ⟨g, 0 + j, none⟩ = some ((Go.Sort.flatK encC 7 out.toArray)[j]!)
  rw [Nat.zero_add, e]
  refine (blk_cell hh j).trans (x.trans ?_)
  rw [List.getElem!_eq_getElem?_getD, List.getElem?_eq_getElem (show j % 7 < (encC out[j / 7]).length from hr)]
  rfl
theorem sorted_heap {w : World} {g n : Nat} {cur : Array Value} {t : TypeId} (d : Array SC) (os : Array Obj) (hh : w.heap[g]? = some (.cells cur t (0, 0))) :
    (Go.Proofs.sortWorldK encC 7 w g 0 n d os).heap[g]? = some (.cells (Go.Sort.putCells id 0 (Go.Sort.flatK encC 7 d) cur) t (0, 0)) ∧ (∀ k, k < w.heap.size → k ≠ g → (Go.Proofs.sortWorldK encC 7 w g 0 n d os).heap[k]? = w.heap[k]?) ∧ w.heap.size ≤ (Go.Proofs.sortWorldK encC 7 w g 0 n d os).heap.size := by
  have hg : g < w.heap.size := (Array.getElem?_eq_some_iff.1 hh).1
  have hz : (Go.Sort.putRowK encC 7 (Go.Sort.ahead w n) g 0 d).heap.size = w.heap.size := Go.Sort.size_putRowK ..
  refine ⟨?_, fun k hk hne => ?_, ?_⟩
  · show (Go.Sort.grow (Go.Sort.putRowK encC 7 (Go.Sort.ahead w n) g 0 d) os).heap[g]? = _
    rw [Go.Sort.heap_grow_old _ _ (by rw [hz]; exact hg)]
    show (w.heap.modify g _)[g]? = _
    rw [Array.getElem?_modify, if_pos rfl, hh]
    rfl
  · show (Go.Sort.grow (Go.Sort.putRowK encC 7 (Go.Sort.ahead w n) g 0 d) os).heap[k]? = _
    rw [Go.Sort.heap_grow_old _ _ (by rw [hz]; exact hk)]
    show (w.heap.modify g _)[k]? = _
    rw [Array.getElem?_modify, if_neg (fun e => hne e.symm)]
  · show w.heap.size ≤ (Go.Sort.grow (Go.Sort.putRowK encC 7 (Go.Sort.ahead w n) g 0 d) os).heap.size
    rw [Go.Sort.size_grow, hz]
    exact Nat.le_add_right _ _
theorem put_at (d : Array SC) (cur : Array Value) (j r : Nat) (hj : j < d.size) (hr : r < 7) (hc : j * 7 + r < cur.size) : (Go.Sort.putCells id 0 (Go.Sort.flatK encC 7 d) cur)[j * 7 + r]? = some ((encC d[j]!)[r]!) := by
  unfold Go.Sort.putCells
  rw [Array.getElem?_mapIdx, Array.getElem?_eq_getElem hc, Option.map_some, if_pos ⟨Nat.zero_le _, by rw [Go.Sort.size_flatK]; omega⟩, Nat.sub_zero, flat_at d j r hj hr]
  rfl
theorem sort_ne {w0 w : World} {ok : Nat → Prop} {v : Value} {out : List SC} (h : Kd.R kC 34 w w0.heap.size ok v out) (hlow : Below w0.heap.size w0 w) (hlen : out.length ≤ 1000) (hne : out ≠ []) :
    Calls Try.prog 32 #[v, .int .i64 out.length, .func (.func 19) #[] #[]] w fun e w' =>
      e = .returned (.tuple #[]) ∧ ∃ out' : List SC, out'.Perm out ∧ out'.Pairwise (fun x y => x.f4 ≤ y.f4) ∧ Kd.R kC 34 w' w0.heap.size ok v out' ∧ Below w0.heap.size w0 w' := by
  obtain ⟨g, c, cur, rfl, hok, hb, hh, hc, hm, hs, hx⟩ := rowC_cells h hne
  have hg : g < w.heap.size := (Array.getElem?_eq_some_iff.1 hh).1
  have eg : ∀ args w, (callFunc 19 args).run Try.prog w = .ok (.enter 19 args) w := enters_of Try.func19 (by kernel_rfl) rfl
  have h1 : ∀ x : SC, ∀ v ∈ encC x, v.oneCell' = true := fun x v hv => by simp [encC] at hv; rcases hv with rfl | rfl | rfl | rfl | rfl | rfl | rfl <;> rfl
  have hR : RowK encC 7 w g 0 out.toArray := ⟨fun _ => rfl, h1, holdsC hh hx, hg⟩
  have hcmp : CmpLays Try.prog 19 #[] encC 7 cfC g 0 out.toArray.size w := fun _ _ _ _ x y => closureC x y _
  have hz : out.toArray.size = out.length := rfl
  have hcon := St.stable layC 7 Try.isAgg34 Try.sizeOf34 encC cfC 19 #[] g 0 c out.toArray w eg hcmp swoC hR (by omega) out.toArray w rfl (SWK.start hR.hH)
    (fun a b d W hd S h1' h2' => by
      obtain ⟨n0, os0, rfl⟩ := S
      have hH := holdsK_sortWorldK_c encC 7 w g 0 out.toArray d n0 os0 hR.hH hg hd
      have hsW := size_sortWorldK_c encC 7 w g 0 n0 d os0
      have hI := AnyQ.insertionSortCmpFunc (P := Try.prog) (ρ := renC) lays20 7 Try.isAgg34 Try.sizeOf34 encC (fun _ => rfl) h1 cfC 19 #[] g 0 c a b d _ eg (fun _ _ _ _ x y => closureC x y _) hH (by omega) h1' h2' (by omega)
      rw [hd] at hI
      refine Calls.mono hI ?_
      rintro e w' ⟨he, n, os, rfl⟩
      have hzs : (Go.Sort.insertionSort (ltOf cfC) d a b).size = d.size := (Go.Sort.insertionSort_holds (lt := ltOf cfC) swoC d a b h1' h2').1.1
      exact ⟨he, SWK.on ⟨n0, os0, rfl⟩ hg n _ os hzs⟩)
    (enters_of Try.func39 (by kernel_rfl) rfl)
  rw [hz] at hcon
  refine Calls.mono hcon ?_
  rintro e w' ⟨he, d', hp, hsd, n, os, rfl⟩
  have hdz : d'.size = out.length := hp.1
  obtain ⟨hh', hk', hz'⟩ := sorted_heap (n := n) d' os hh
  have hpe : d'.toList.Perm out := by
    have h1 := hp.2.2
    have e1 : d'.extract 0 out.length = d' := by rw [← hdz]; exact Array.extract_size ..
    have e2 : out.toArray.extract 0 out.length = out.toArray := by rw [← hz]; exact Array.extract_size ..
    rw [e1, e2] at h1
    exact h1
  have hl : d'.toList.length = out.length := by rw [Array.length_toList]; exact hdz
  refine ⟨he, d'.toList, hpe, ?_, ?_, ?_⟩
  · rw [List.pairwise_iff_getElem]
    intro i j hi hj hij
    have h1 := hsd i j (Nat.zero_le _) hij (by show j < out.length; omega)
    rw [getElem!_pos d' j (by omega), getElem!_pos d' i (by omega), ltC] at h1
    have h2 := of_decide_eq_false h1
    exact Int.not_lt.1 h2
  · rw [← hl]
    refine rowC_of g c _ hok hb hh' (by rw [hl]; exact hc) hm (by unfold Go.Sort.putCells; rw [Array.size_mapIdx]; exact hs) (fun j hj r hr => ?_)
    have hj' : j < d'.size := by rw [hdz]; rw [hl] at hj; exact hj
    have ed : d'[j]! = d'.toList[j] := by rw [getElem!_pos d' j hj']; rfl
    have p0 := put_at d' cur j r hj' hr (by rw [hs]; omega)
    rw [ed] at p0
    rw [p0, List.getElem!_eq_getElem?_getD, List.getElem?_eq_getElem (show r < (encC d'.toList[j]).length from hr)]
    rfl
  · exact ⟨hlow.os, hlow.tape, hlow.output, Nat.le_trans hlow.size hz', fun k hk => (hk' k (Nat.lt_of_lt_of_le hk hlow.size) (by omega)).trans (hlow.block k hk)⟩
set_option maxHeartbeats 4000000 in
set_option maxRecDepth 100000 in
theorem ins_none (A : Option Addr) (c : Nat) (f : Value) (w : World) : Calls Try.prog 39 #[.slice A 0 c, .int .i64 0, .int .i64 0, f] w fun e w' => e = .returned (.tuple #[]) ∧ w' = w := by
  go_enter Try.func39, Try.ntmps39
  go_wp2
  refine wp_loop_rounds 1 ?_
  rw [rounds_succ]
  go_wp2
  go_end0
  exact ⟨rfl, rfl⟩
set_option maxHeartbeats 4000000 in
set_option maxRecDepth 100000 in
theorem stable_none (A : Option Addr) (c : Nat) (f : Value) (w : World) : Calls Try.prog 32 #[.slice A 0 c, .int .i64 0, f] w fun e w' => e = .returned (.tuple #[]) ∧ w' = w := by
  have HI := Aside0.mk (ins_none A c f w)
  go_enter Try.func32, Try.ntmps32
  go_wp2
  refine wp_loop_rounds 1 ?_
  rw [rounds_succ]
  go_wp2_with (go_at_call 39; refine HI.out.mono ?_; rintro e w' ⟨rfl, rfl⟩)
  refine wp_loop_rounds 1 ?_
  rw [rounds_succ]
  go_wp2
  go_end0
  exact ⟨rfl, rfl⟩
theorem stable_of {w0 w : World} {ok : Nat → Prop} {v : Value} {out : List SC} (h : Kd.R kC 34 w w0.heap.size ok v out) (hlow : Below w0.heap.size w0 w) (hlen : out.length ≤ 1000) :
    Calls Try.prog 32 #[v, .int .i64 out.length, .func (.func 19) #[] #[]] w fun e w' =>
      e = .returned (.tuple #[]) ∧ ∃ out' : List SC, out'.Perm out ∧ out'.Pairwise (fun x y => x.f4 ≤ y.f4) ∧ Kd.R kC 34 w' w0.heap.size ok v out' ∧ Below w0.heap.size w0 w' := by
  by_cases hne : out = []
  · subst hne
    obtain ⟨A, c, rfl⟩ := Kd.R_slice h
    refine Calls.mono (stable_none A c (.func (.func 19) #[] #[]) w) ?_
    rintro e w' ⟨he, rfl⟩
    exact ⟨he, [], List.Perm.refl _, List.Pairwise.nil, h, hlow⟩
  · exact sort_ne h hlow hlen hne
set_option maxHeartbeats 4000000 in
set_option maxRecDepth 100000 in
/-- slices.SortStableFunc: the same calls behind it, none that begins earlier behind one that begins later. -/
theorem sort_of {w0 w : World} {ok : Nat → Prop} {A : Option Addr} {c : Nat} {out : List SC} (h : Kd.R kC 34 w w0.heap.size ok (.slice A out.length c) out) (hlow : Below w0.heap.size w0 w) (hlen : out.length ≤ 1000) :
    Calls Try.prog 18 #[.slice A out.length c, .func (.func 19) #[] #[]] w fun e w' =>
      e = .returned (.tuple #[]) ∧ ∃ out' : List SC, out'.Perm out ∧ out'.Pairwise (fun x y => x.f4 ≤ y.f4) ∧ Kd.R kC 34 w' w0.heap.size ok (.slice A out.length c) out' ∧ Below w0.heap.size w0 w' := by
  have HI := Aside0.mk (stable_of h hlow hlen)
  clear h
  generalize hn : out.length = n at HI ⊢
  go_enter Try.func18, Try.ntmps18
  go_wp2_with (go_at_call 32; refine HI.out.mono ?_; rintro e w' ⟨rfl, hq⟩)
  go_end0
  exact ⟨rfl, hq⟩
end Go.Proofs.Ytalhphclogbpnaa.PFnCritical
