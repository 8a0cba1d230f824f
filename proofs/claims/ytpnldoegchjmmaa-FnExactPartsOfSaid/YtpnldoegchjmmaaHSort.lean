/- slices.SortFunc over labels by their names: a row of the call's own holds its labels in order behind it. -/
import Derived.Test.YtpnldoegchjmmaaSortLay
import Derived.Test.YtpnldoegchjmmaaPFnExactPartsOfx1
import Derived.Lib.Bytealg
import Derived.Shelf.SlSortCmp.NoneTotal
import Derived.Lib.Strings
namespace Go.Proofs.Ytpnldoegchjmmaa.PFnExactPartsOf
open Go.RowKit Go.Shelf Go.Proofs.YtpnldoegchjmmaaW.PrintWords Go.Proofs.YtpnldoegchjmmaaW.PrintLast Go.Proofs.YtpnldoegchjmmaaW.PrintMore
set_option linter.unusedVariables false
set_option linter.unusedSimpArgs false
abbrev SL := S39
abbrev kL := k39
instance : Inhabited SL := ⟨⟨ByteArray.empty, ByteArray.empty⟩⟩
def encL (x : SL) : List Value := [.string x.f0, .string x.f1]
def nameOf (x : SL) : List UInt8 := x.f0.data.toList
def cfL (x y : SL) : Int := Lib.compareBytes (nameOf x) (nameOf y)
/-! ### The order of texts -/
theorem cmp_nlt : ∀ a b : List UInt8, ¬ Lib.compareBytes a b < 0 → Lib.compareBytes b a ≤ 0
  | [], [], _ => by decide
  | [], _ :: _, h => absurd (by decide : (-1 : Int) < 0) h
  | _ :: _, [], _ => by show (-1 : Int) ≤ 0; decide
  | a :: x1, b :: x2, h => by
    unfold Lib.compareBytes at h ⊢
    by_cases h1 : a < b
    · rw [if_pos h1] at h; exact absurd (by decide : (-1 : Int) < 0) h
    · rw [if_neg h1] at h
      by_cases h2 : b < a
      · rw [if_pos h2]; decide
      · rw [if_neg h2] at h ⊢
        rw [if_neg h1]
        exact cmp_nlt x1 x2 h
theorem cmp_self : ∀ a : List UInt8, Lib.compareBytes a a = 0
  | [] => rfl
  | a :: x1 => by
    unfold Lib.compareBytes
    rw [if_neg (UInt8.lt_irrefl a), if_neg (UInt8.lt_irrefl a)]
    exact cmp_self x1
theorem u8_eq {a b : UInt8} (h1 : ¬ a < b) (h2 : ¬ b < a) : a = b := UInt8.toNat_inj.1 (Nat.le_antisymm (Nat.le_of_not_lt h2) (Nat.le_of_not_lt h1))
theorem cmp_le_trans : ∀ a b c : List UInt8, Lib.compareBytes a b ≤ 0 → Lib.compareBytes b c ≤ 0 → Lib.compareBytes a c ≤ 0 ∧ (Lib.compareBytes a b < 0 ∨ Lib.compareBytes b c < 0 → Lib.compareBytes a c < 0)
  | [], [], [], _, _ => ⟨by decide, fun h => by rcases h with h | h <;> exact absurd h (by decide)⟩
  | [], [], _ :: _, _, _ => ⟨by show (-1 : Int) ≤ 0; decide, fun _ => by show (-1 : Int) < 0; decide⟩
  | [], _ :: _, [], _, h => absurd h (by show ¬ (1 : Int) ≤ 0; decide)
  | [], _ :: _, _ :: _, _, _ => ⟨by show (-1 : Int) ≤ 0; decide, fun _ => by show (-1 : Int) < 0; decide⟩
  | _ :: _, [], _, h, _ => absurd h (by show ¬ (1 : Int) ≤ 0; decide)
  | _ :: _, _ :: _, [], _, h => absurd h (by show ¬ (1 : Int) ≤ 0; decide)
  | a :: x1, b :: x2, c :: x3, h1, h2 => by
    unfold Lib.compareBytes at h1 h2 ⊢
    by_cases ab : a < b
    · by_cases bc : b < c
      · rw [if_pos (UInt8.lt_trans ab bc)]; exact ⟨by decide, fun _ => by decide⟩
      · rw [if_neg bc] at h2
        by_cases cb : c < b
        · rw [if_pos cb] at h2; exact absurd h2 (by decide)
        · have e := u8_eq bc cb
          subst e
          rw [if_pos ab]; exact ⟨by decide, fun _ => by decide⟩
    · rw [if_neg ab] at h1
      by_cases ba : b < a
      · rw [if_pos ba] at h1; exact absurd h1 (by decide)
      · have e := u8_eq ab ba
        subst e
        rw [if_neg ba] at h1
        rw [if_neg ab, if_neg ba]
        by_cases bc : a < c
        · rw [if_pos bc]; exact ⟨by decide, fun _ => by decide⟩
        · rw [if_neg bc] at h2 ⊢
          by_cases cb : c < a
          · rw [if_pos cb] at h2; exact absurd h2 (by decide)
          · rw [if_neg cb] at h2 ⊢
            rw [if_neg bc, if_neg cb]
            exact cmp_le_trans x1 x2 x3 h1 h2
theorem cmp_lt_asymm {a b : List UInt8} (h : Lib.compareBytes a b < 0) : ¬ Lib.compareBytes b a < 0 := fun h2 => by
  have := (cmp_le_trans a b a (by omega) (by omega)).2 (Or.inl h)
  rw [cmp_self] at this
  exact absurd this (by decide)
theorem cmp_eq_zero : ∀ a b : List UInt8, Lib.compareBytes a b = 0 → a = b
  | [], [], _ => rfl
  | [], _ :: _, h => absurd h (by show ¬ (-1 : Int) = 0; decide)
  | _ :: _, [], h => absurd h (by show ¬ (1 : Int) = 0; decide)
  | a :: x1, b :: x2, h => by
    unfold Lib.compareBytes at h
    by_cases h1 : a < b
    · rw [if_pos h1] at h; exact absurd h (by decide)
    · rw [if_neg h1] at h
      by_cases h2 : b < a
      · rw [if_pos h2] at h; exact absurd h (by decide)
      · rw [if_neg h2] at h
        rw [u8_eq h1 h2, cmp_eq_zero x1 x2 h]
theorem swoL : Go.Sort.SWO (ltOf cfL) where
  irrefl x := by unfold ltOf cfL; rw [cmp_self]; decide
  trans x y z h1 h2 := by
    unfold ltOf cfL at *
    rw [decide_eq_true_eq] at *
    exact (cmp_le_trans _ _ _ (by omega) (by omega)).2 (Or.inl h1)
  ntrans x y z h1 h2 := by
    unfold ltOf cfL at *
    rw [decide_eq_false_iff_not] at *
    intro h3
    have a1 := cmp_nlt _ _ h1
    have a2 := cmp_nlt _ _ h2
    have a3 := (cmp_le_trans _ _ _ a2 a1).1
    have a4 := (cmp_le_trans (nameOf x) (nameOf z) (nameOf x) (by omega) a3).2 (Or.inl h3)
    rw [cmp_self] at a4
    exact absurd a4 (by decide)
/-! ### The comparison handed to it -/
set_option maxHeartbeats 1000000 in
set_option maxRecDepth 100000 in
theorem cmpStr_of (a b : ByteArray) (w : World) : Calls Try.prog 43 #[.string a, .string b] w fun e w' => e = .returned (.int .i64 (Lib.compareBytes a.data.toList b.data.toList)) ∧ w' = w := by
  go_enter Try.func43, Try.ntmps43
  go_wp2
  rw [run_callFunc_extern Try.func60 (by kernel_rfl) (by kernel_rfl) (by kernel_rfl) (e := Extern.BytealgCompare.compare) (by kernel_rfl), Lib.run_compareString]
  simp only [Result.andThen]
  rw [Oper.upon_value]
  go_wp2
  go_ret
  exact ⟨rfl, rfl⟩
set_option maxHeartbeats 1000000 in
theorem cmpS_of (a b : ByteArray) (w : World) : Calls Try.prog 32 #[.string a, .string b] w fun e w' => e = .returned (.int .i64 (Lib.compareBytes a.data.toList b.data.toList)) ∧ w' = w := by
  have HC := Aside0.mk (fun W => cmpStr_of a b W)
  go_enter Try.func32, Try.ntmps32
  go_wp2_with (go_at_call 43; refine (HC.out _).mono ?_; rintro e w' ⟨rfl, rfl⟩)
  go_ret
  exact ⟨rfl, rfl⟩
set_option maxHeartbeats 1000000 in
theorem closureL (x y : SL) (W : World) : Calls Try.prog 31 #[.agg #[.string x.f0, .string x.f1], .agg #[.string y.f0, .string y.f1]] W fun e w' => e = .returned (.int .i64 (cfL x y)) ∧ ∃ q os', w' = Go.Sort.grow (W.drewN q) os' := by
  have hcon := fun W' => cmpS_of x.f0 y.f0 W'
  have e : Lib.compareBytes x.f0.data.toList y.f0.data.toList = cfL x y := rfl
  rw [e] at hcon
  generalize cfL x y = r at hcon ⊢
  go_enter Try.func31, Try.ntmps31
  go_wp2_with (go_at_call 32; refine (hcon _).mono ?_; rintro e w' ⟨rfl, rfl⟩)
  go_ret
  exact ⟨rfl, 0, _, by rw [Go.Sort.alloc_eq_grow, Go.Sort.alloc_eq_grow, Go.Sort.grow_grow]; rfl⟩
/-! ### The row of labels, as the sort wants it -/
theorem flat_at (d : Array SL) (j r : Nat) (hj : j < d.size) (hr : r < 2) : (Go.Sort.flatK encL 2 d)[j * 2 + r]! = (encL d[j]!)[r]! := by
  rw [Go.Sort.get_flatK encL 2 d (j * 2 + r) (by omega), show (j * 2 + r) / 2 = j by omega, show (j * 2 + r) % 2 = r by omega]
theorem rowL_cells {w : World} {base : Nat} {ok : Nat → Prop} {v : Value} {out : List SL} (h : Kd.R kL 39 w base ok v out) (hne : out ≠ []) :
    ∃ g c cur, v = .slice (some ⟨g, 0, none⟩) out.length c ∧ ok g ∧ base ≤ g ∧ w.heap[g]? = some (.cells cur 39 (0, 0)) ∧ out.length ≤ c ∧ c ≤ maxLen ∧ cur.size = c * 2 ∧
      ∀ j, (hj : j < out.length) → cur[j * 2]? = some (.string out[j].f0) ∧ cur[j * 2 + 1]? = some (.string out[j].f1) := by
  obtain ⟨h0, inner, ho, hr⟩ := h
  obtain ⟨hl, ho⟩ := ho
  rcases ho with ⟨_, hn⟩ | ⟨g, c, cur, rfl, hb, hh, hc, hm, hs, ht⟩
  · exact absurd (List.length_eq_zero_iff.1 hn) hne
  · refine ⟨g, c, cur, rfl, h0 g rfl, hb, hh, hc, hm, hs, fun j hj => ?_⟩
    have hp := hr.2 j out[j] (List.getElem?_eq_getElem hj)
    have e2 : (inner.drop (j * 2)).take 2 = [.string out[j].f0, .string out[j].f1] := by
      obtain ⟨c1, c2, e, e1, e2⟩ := hp
      have e1 : c1 = [.string out[j].f0] := e1
      have e2 : c2 = [.string out[j].f1] := e2
      have e : (inner.drop (j * 2)).take 2 = c1 ++ c2 := e
      rw [e, e1, e2]; rfl
    have hsz : kL.sz = 2 := rfl
    have hl2 : inner.length = out.length * 2 := hl
    have g0 : ∀ r, r < 2 → cur[j * 2 + r]? = ((inner.drop (j * 2)).take 2)[r]? := fun r hr => by
      have ht : cur.toList.take (out.length * 2) = inner := ht
      rw [List.getElem?_take_of_lt hr, List.getElem?_drop, ← ht, List.getElem?_take_of_lt (by omega), Array.getElem?_toList]
    refine ⟨?_, ?_⟩
    · have := g0 0 (by omega)
      rw [e2] at this
      exact this
    · have := g0 1 (by omega)
      rw [e2] at this
      exact this
theorem rowL_of {w : World} {base : Nat} {ok : Nat → Prop} {out : List SL} (g c : Nat) (cur : Array Value) (h0 : ok g) (hb : base ≤ g) (hh : w.heap[g]? = some (.cells cur 39 (0, 0))) (hc : out.length ≤ c) (hm : c ≤ maxLen) (hs : cur.size = c * 2)
    (hx : ∀ j, (hj : j < out.length) → cur[j * 2]? = some (.string out[j].f0) ∧ cur[j * 2 + 1]? = some (.string out[j].f1)) : Kd.R kL 39 w base ok (.slice (some ⟨g, 0, none⟩) out.length c) out := by
  have hcl : cur.toList.length = c * 2 := by rw [Array.length_toList]; exact hs
  refine ⟨fun k hk => ?_, cur.toList.take (out.length * 2), ⟨?_, Or.inr ⟨g, c, cur, rfl, hb, hh, hc, hm, hs, rfl⟩⟩, ?_, fun j p hp => ?_⟩
  · have : g = k := by injection hk
    rw [← this]; exact h0
  · show (cur.toList.take (out.length * 2)).length = out.length * 2
    rw [List.length_take, hcl]; omega
  · show (cur.toList.take (out.length * 2)).length = out.length * 2
    rw [List.length_take, hcl]; omega
  · obtain ⟨hj, rfl⟩ := List.getElem?_eq_some_iff.1 hp
    obtain ⟨x0, x1⟩ := hx j hj
    refine ⟨[.string out[j].f0], [.string out[j].f1], ?_, rfl, rfl⟩
    show (((cur.toList.take (out.length * 2)).drop (j * 2)).take 2) = [.string out[j].f0, .string out[j].f1]
    apply List.ext_getElem?
    intro r
    by_cases hr : r < 2
    · rw [List.getElem?_take_of_lt hr, List.getElem?_drop, List.getElem?_take_of_lt (by omega), Array.getElem?_toList]
      match r, hr with
      | 0, _ => exact x0
      | 1, _ => exact x1
    · rw [List.getElem?_eq_none (by rw [List.length_take]; omega), List.getElem?_eq_none (by simp only [List.length_cons, List.length_nil]; omega)]
theorem holdsL {w : World} {g : Nat} {cur : Array Value} {out : List SL} (hh : w.heap[g]? = some (.cells cur 39 (0, 0))) (hx : ∀ j, (hj : j < out.length) → cur[j * 2]? = some (.string out[j].f0) ∧ cur[j * 2 + 1]? = some (.string out[j].f1)) : Go.Sort.HoldsK encL 2 w g 0 out.toArray := fun j hj => by
  rw [Go.Sort.size_flatK] at hj
  have hs : out.toArray.size = out.length := rfl
  have hj2 : j / 2 < out.length := by omega
  have e := flat_at out.toArray (j / 2) (j % 2) hj2 (Nat.mod_lt _ (by decide))
  have ej : j / 2 * 2 + j % 2 = j := by omega
  rw [ej] at e
  have eo : out.toArray[j / 2]! = out[j / 2] := getElem!_pos out.toArray (j / 2) hj2
  rw [eo] at e
  obtain ⟨x0, x1⟩ := hx (j / 2) hj2
  refine ⟨?_, by rw [Nat.zero_add]; exact blk_frozen hh j⟩
  show w.cell? ⟨g, 0 + j, none⟩ = some ((Go.Sort.flatK encL 2 out.toArray)[j]!)
  rw [Nat.zero_add, e]
  refine (blk_cell hh j).trans ?_
  rcases Nat.mod_two_eq_zero_or_one j with h | h
  · rw [show j / 2 * 2 = j by omega] at x0
    rw [h]
    exact x0
  · rw [show j / 2 * 2 + 1 = j by omega] at x1
    rw [h]
    exact x1
theorem sorted_heap {w : World} {g n : Nat} {cur : Array Value} {t : TypeId} (d : Array SL) (os : Array Obj) (hh : w.heap[g]? = some (.cells cur t (0, 0))) :
    (Go.Proofs.sortWorldK encL 2 w g 0 n d os).heap[g]? = some (.cells (Go.Sort.putCells id 0 (Go.Sort.flatK encL 2 d) cur) t (0, 0)) ∧ (∀ k, k < w.heap.size → k ≠ g → (Go.Proofs.sortWorldK encL 2 w g 0 n d os).heap[k]? = w.heap[k]?) ∧ w.heap.size ≤ (Go.Proofs.sortWorldK encL 2 w g 0 n d os).heap.size := by
  have hg : g < w.heap.size := (Array.getElem?_eq_some_iff.1 hh).1
  have hz : (Go.Sort.putRowK encL 2 (Go.Sort.ahead w n) g 0 d).heap.size = w.heap.size := Go.Sort.size_putRowK ..
  refine ⟨?_, fun k hk hne => ?_, ?_⟩
  · show (Go.Sort.grow (Go.Sort.putRowK encL 2 (Go.Sort.ahead w n) g 0 d) os).heap[g]? = _
    rw [Go.Sort.heap_grow_old _ _ (by rw [hz]; exact hg)]
    show (w.heap.modify g _)[g]? = _
    rw [Array.getElem?_modify, if_pos rfl, hh]
    rfl
  · show (Go.Sort.grow (Go.Sort.putRowK encL 2 (Go.Sort.ahead w n) g 0 d) os).heap[k]? = _
    rw [Go.Sort.heap_grow_old _ _ (by rw [hz]; exact hk)]
    show (w.heap.modify g _)[k]? = _
    rw [Array.getElem?_modify, if_neg (fun e => hne e.symm)]
  · show w.heap.size ≤ (Go.Sort.grow (Go.Sort.putRowK encL 2 (Go.Sort.ahead w n) g 0 d) os).heap.size
    rw [Go.Sort.size_grow, hz]
    exact Nat.le_add_right _ _
theorem put_at (d : Array SL) (cur : Array Value) (j r : Nat) (hj : j < d.size) (hr : r < 2) (hc : j * 2 + r < cur.size) : (Go.Sort.putCells id 0 (Go.Sort.flatK encL 2 d) cur)[j * 2 + r]? = some ((encL d[j]!)[r]!) := by
  unfold Go.Sort.putCells
  rw [Array.getElem?_mapIdx, Array.getElem?_eq_getElem hc, Option.map_some, if_pos ⟨Nat.zero_le _, by rw [Go.Sort.size_flatK]; omega⟩, Nat.sub_zero, flat_at d j r hj hr]
  rfl
/-- Behind the sort: the same labels, each name no greater than the ones behind it. -/
theorem sort_ne {w0 w : World} {ok : Nat → Prop} {v : Value} {out : List SL} (h : Kd.R kL 39 w w0.heap.size ok v out) (hlow : Below w0.heap.size w0 w) (hlen : out.length ≤ 1000) (hne : out ≠ []) :
    Calls Try.prog 30 #[v, .func (.func 31) #[] #[]] w fun e w' =>
      e = .returned (.tuple #[]) ∧ ∃ out' : List SL, out'.Perm out ∧ out'.Pairwise (fun x y => ¬ Lib.compareBytes (nameOf y) (nameOf x) < 0) ∧ Kd.R kL 39 w' w0.heap.size ok v out' ∧ Below w0.heap.size w0 w' := by
  obtain ⟨g, c, cur, rfl, hok, hb, hh, hc, hm, hs, hx⟩ := rowL_cells h hne
  have hg : g < w.heap.size := (Array.getElem?_eq_some_iff.1 hh).1
  have eg : ∀ args w, (callFunc 31 args).run Try.prog w = .ok (.enter 31 args) w := enters_of Try.func31 (by kernel_rfl) rfl
  have hcon := AnyQ.slices_SortFunc Go.Proofs.Ytpnldoegchjmmaa.SortLay.lays 2 Try.isAgg39 Try.sizeOf39 encL (fun _ => rfl) (fun x v hv => by simp [encL] at hv; rcases hv with rfl | rfl <;> rfl) cfL swoL 31 #[] g 0 c out.toArray w eg (fun _ _ _ _ x y => closureL x y _) (holdsL hh hx) hg (by show out.length < _; omega)
  refine Calls.mono hcon ?_
  rintro e w' ⟨he, d', n, os, hp, hsd, rfl⟩
  have hdz : d'.size = out.length := hp.1
  obtain ⟨hh', hk', hz'⟩ := sorted_heap (n := n) d' os hh
  have hpe : d'.toList.Perm out := by
    have h1 := hp.2.2
    have e1 : d'.extract 0 out.toArray.size = d' := by rw [show out.toArray.size = d'.size from hdz.symm]; exact Array.extract_size ..
    have e2 : out.toArray.extract 0 out.toArray.size = out.toArray := Array.extract_size ..
    rw [e1, e2] at h1
    exact h1
  have hl : d'.toList.length = out.length := by rw [Array.length_toList]; exact hdz
  refine ⟨he, d'.toList, hpe, ?_, ?_, ?_⟩
  · rw [List.pairwise_iff_getElem]
    intro i j hi hj hij
    have h1 := hsd i j (Nat.zero_le _) hij (by show j < out.length; omega)
    rw [getElem!_pos d' j (by omega), getElem!_pos d' i (by omega)] at h1
    unfold ltOf at h1
    rw [decide_eq_false_iff_not] at h1
    exact h1
  · rw [← hl]
    refine rowL_of g c _ hok hb hh' (by rw [hl]; exact hc) hm (by unfold Go.Sort.putCells; rw [Array.size_mapIdx]; exact hs) (fun j hj => ?_)
    have hj' : j < d'.size := by rw [hdz]; rw [hl] at hj; exact hj
    have ed : d'[j]! = d'.toList[j] := by rw [getElem!_pos d' j hj']; rfl
    have p0 := put_at d' cur j 0 hj' (by decide) (by rw [hs]; omega)
    have p1 := put_at d' cur j 1 hj' (by decide) (by rw [hs]; omega)
    rw [ed] at p0 p1
    exact ⟨p0, p1⟩
  · exact ⟨hlow.os, hlow.tape, hlow.output, Nat.le_trans hlow.size hz', fun k hk => (hk' k (Nat.lt_of_lt_of_le hk hlow.size) (by omega)).trans (hlow.block k hk)⟩
theorem sort_of {w0 w : World} {ok : Nat → Prop} {v : Value} {out : List SL} (h : Kd.R kL 39 w w0.heap.size ok v out) (hlow : Below w0.heap.size w0 w) (hlen : out.length ≤ 1000) :
    Calls Try.prog 30 #[v, .func (.func 31) #[] #[]] w fun e w' =>
      e = .returned (.tuple #[]) ∧ ∃ out' : List SL, out'.Perm out ∧ out'.Pairwise (fun x y => ¬ Lib.compareBytes (nameOf y) (nameOf x) < 0) ∧ Kd.R kL 39 w' w0.heap.size ok v out' ∧ Below w0.heap.size w0 w' := by
  by_cases hne : out = []
  · subst hne
    obtain ⟨A, c, rfl⟩ := Kd.R_slice h
    refine Calls.mono (AnyF.slices_SortFunc_none Go.Proofs.Ytpnldoegchjmmaa.SortLay.lays A c (.func (.func 31) #[] #[]) w) ?_
    rintro e w' ⟨he, rfl⟩
    exact ⟨he, [], List.Perm.refl _, List.Pairwise.nil, h, hlow⟩
  · exact sort_ne h hlow hlen hne
end Go.Proofs.Ytpnldoegchjmmaa.PFnExactPartsOf
