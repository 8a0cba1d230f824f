/- The walk of partsOf (written by partsgen.py). -/
import Derived.Test.YtpnldoegchjmmaaHForm
import Derived.Test.YtpnldoegchjmmaaHSort
import Derived.Test.YtpnldoegchjmmaaIdxLay
import Derived.Test.YtpnldoegchjmmaaPFnExactPartsOfx2
import Derived.Lib.CutLaws
import Derived.Test.YtpnldoegchjmmaaSortM
namespace Go.Proofs.Ytpnldoegchjmmaa.PFnExactPartsOf
attribute [local go_sem] Go.Proofs.Ytpnldoegchjmmaa.Cmp.str_gtr Go.Proofs.Ytpnldoegchjmmaa.Cmp.str_geq Go.Proofs.Ytpnldoegchjmmaa.Cmp.str_leq
open Go.RowKit Go.Maps Go.Proofs.YtpnldoegchjmmaaW.PrintWords Go.Proofs.YtpnldoegchjmmaaW.PrintLast Go.Proofs.YtpnldoegchjmmaaW.PrintMore Go.Proofs.Ytpnldoegchjmmaa.Evs Go.Proofs.Ytpnldoegchjmmaa.AFnExactPartsOf Go.Proofs.Ytpnldoegchjmmaa.PrtFnExactPartsOf Go.Proofs.Ytpnldoegchjmmaa.Form Go.Proofs.Ytpnldoegchjmmaa.SortM
set_option linter.unusedVariables false
set_option linter.unusedSimpArgs false
/-! ### What it computes -/
def emB (s : ByteArray) : Bool := decide (s.toList = [])
def valueB (s : ByteArray) : Bool := !emB s && (decide ((s.size : Int) ≤ 100) && printedB s)
def ixB (s t : ByteArray) : Int := Lib.index s.data.toList t.data.toList
def nextI (s t : ByteArray) : Option (ByteArray × ByteArray) := if emB t = true then some (s, ⟨#[]⟩) else if 0 ≤ ixB s t then some (s.extract 0 (ixB s t).toNat, s.extract ((ixB s t).toNat + t.size) s.size) else none
def partsG : List SHl → ByteArray → List SL → Option (List SL × ByteArray)
  | h :: g :: rest, s, out => match nextI s g.f0 with
    | none => none
    | some (v, s') => if valueB v = true then partsG (g :: rest) s' (out ++ [⟨h.f1, v⟩]) else none
  | _, s, out => some (out, s)
theorem ix_cases (s t : ByteArray) : ixB s t = -1 ∨ ∃ i : Nat, ixB s t = i ∧ i + t.size ≤ s.size := Lib.indexB_cases s t
theorem implValue_ev (s : ByteArray) : EvP (fun k => impl_isValue.f k s) (fun r => r = valueB s) := by
  unfold impl_isValue.f valueB emB
  refine EvP.ite (fun h => EvP.now (by rw [decide_eq_true h]; rfl)) (fun h => ?_)
  rw [decide_eq_false h]
  exact EvP.bind (implPrinted_ev s 100 (by omega)) (fun t e => EvP.now (by rw [e]; rfl))
theorem pvalue (v : ByteArray) (w : World) : Calls Try.prog 29 #[.string v] w fun e w' => e = .returned (.bool (valueB v)) ∧ Drawn0 w w' := by
  obtain ⟨k, hk⟩ := EvP.rounds (implValue_ev v)
  exact impl_isValue.calls k v _ w hk
theorem pindex (s t : ByteArray) (hs : s.size ≤ 1000000) (m : Int) (w : World) (hm : w.cell? ⟨0, 0, none⟩ = some (.int .i64 m)) : Calls Try.prog 28 #[.string s, .string t] w fun e w' => e = .returned (.int .i64 (ixB s t)) ∧ w' = w :=
  Go.Proofs.Any.strings_Index Go.Proofs.Ytpnldoegchjmmaa.IdxLay.lays s t m w (by omega) hm
def cutP (s t : ByteArray) : ByteArray × Bool := if (decide (t.size ≤ s.size) && ((s.extract 0 t.size).toList == t.toList)) = true then (s.extract t.size s.size, true) else (s, false)
theorem cutP_f (s t : ByteArray) : strings_CutPrefix.f s t = some (cutP s t) := by
  unfold strings_CutPrefix.f stringslite_CutPrefix.f stringslite_HasPrefix.f cutP
  by_cases h : t.size ≤ s.size
  · rw [if_pos (by omega), if_pos (by omega), if_pos (by omega), decide_eq_true h, Bool.true_and, Option.bind_some, Int.toNat_natCast]
    by_cases hb : ((s.extract 0 t.size).toList == t.toList) = true
    · rw [if_pos hb, if_pos hb, if_pos (by omega), if_pos (by omega)]; rfl
    · rw [if_neg hb, if_neg hb]; rfl
  · rw [if_neg (by omega), decide_eq_false h]; rfl
theorem pcut (s t : ByteArray) (w : World) : Calls Try.prog 27 #[.string s, .string t] w fun e w' => e = .returned (.tuple #[.string (cutP s t).1, .bool (cutP s t).2]) ∧ Drawn0 w w' := strings_CutPrefix.calls s t _ _ w (cutP_f s t)
theorem cutP_size (s t : ByteArray) : (cutP s t).1.size ≤ s.size := by
  unfold cutP
  split
  · simp only [ext_size]; omega
  · exact Nat.le_refl _
def finM : Option (List SL × ByteArray) → List SL × Bool
  | none => ([], false)
  | some (out, s) => (sortM out, emB s)
def partsM (fm : List SHl) (text : ByteArray) : List SL × Bool := if (cutP text (rd_T49 fm 0).f0).2 = true then finM (partsG fm (cutP text (rd_T49 fm 0).f0).1 []) else ([], false)
theorem rdH (fm : List SHl) (i : Nat) (h : i < fm.length) : rd_T49 fm (i : Int) = fm[i] := getD_get _ fm i h
def stepP (rest : List SHl) (n : ByteArray) (out : List SL) : Option (ByteArray × ByteArray) → Option (List SL × ByteArray)
  | none => none
  | some (v, s') => if valueB v = true then partsG rest s' (out ++ [⟨n, v⟩]) else none
theorem step_parts {fm : List SHl} {i : Nat} {a b : SHl} {s : ByteArray} {out : List SL} {r : Option (List SL × ByteArray)} (hj : i + 1 < fm.length) (ha : a = fm[i]) (hb : b = fm[i + 1]) (h : partsG (fm.drop i) s out = r) : stepP (fm.drop (i + 1)) a.f1 out (nextI s b.f0) = r := by
  rw [List.drop_eq_getElem_cons (by omega : i < fm.length), List.drop_eq_getElem_cons hj, ← ha, ← hb] at h
  rw [List.drop_eq_getElem_cons hj, ← hb, ← h]
  unfold partsG stepP
  cases nextI s b.f0 with
  | none => rfl
  | some p => rfl
theorem next_em (s t : ByteArray) (h : t.toList = []) : nextI s t = some (s, ⟨#[]⟩) := by unfold nextI emB; rw [if_pos (decide_eq_true h)]
theorem next_no (s t : ByteArray) (h : ¬ t.toList = []) (hx : ixB s t = -1) : nextI s t = none := by unfold nextI emB; rw [if_neg (by rw [decide_eq_false h]; decide), hx, if_neg (by decide)]
theorem next_at (s t : ByteArray) (h : ¬ t.toList = []) {j : Nat} (hx : ixB s t = (j : Int)) : nextI s t = some (s.extract 0 j, s.extract (j + t.size) s.size) := by unfold nextI emB; rw [if_neg (by rw [decide_eq_false h]; decide), hx, if_pos (by omega)]; rfl
theorem step_bad (rest : List SHl) (n : ByteArray) (out : List SL) (v s' : ByteArray) (h : valueB v = false) : stepP rest n out (some (v, s')) = none := by
  show (if valueB v = true then partsG rest s' (out ++ [⟨n, v⟩]) else none) = none
  rw [h, if_neg (by decide)]
theorem kL_mkM (w : World) (base : Nat) (ok : Nat → Prop) (x : SL) : kL.M w base ok x [.string x.f0, .string x.f1] := ⟨[.string x.f0], [.string x.f1], rfl, rfl, rfl⟩
theorem wrap_pred {a b : Nat} (h : a = b + 1) (h2 : a ≤ 200) : wrap64 ((a : Int) - 1) = (b : Int) := by unfold wrap64; omega
structure PartAt (w wr : World) (v8 : Value) (fm : List SHl) (i : Nat) (s : ByteArray) (out : List SL) (r : Option (List SL × ByteArray)) : Prop where
  row : Kd.R kL 39 wr w.heap.size (fun _ => True) v8 out
  low : Below w.heap.size w wr
  le : i + 1 ≤ fm.length
  few : out.length = i
  names : out.map nameOf = (fm.take i).map (fun h => h.f1.data.toList)
  short : s.size ≤ 1000
  val : partsG (fm.drop i) s out = r
theorem PartAt.next {w wr w1 : World} {v8 v1 : Value} {fm : List SHl} {i : Nat} {s s' n v : ByteArray} {out : List SL} {r : Option (List SL × ByteArray)} (h : PartAt w wr v8 fm i s out r) (hj : i + 1 < fm.length) (hn : n = (fm[i]'(by omega)).f1) (hs : stepP (fm.drop (i + 1)) n out (some (v, s')) = r) (hv : valueB v = true) (hz : s'.size ≤ 1000)
    (h1 : Kd.R kL 39 w1 w.heap.size (fun _ => True) v1 (out ++ [⟨n, v⟩])) (h2 : Below w.heap.size w w1) : PartAt w w1 v1 fm (i + 1) s' (out ++ [⟨n, v⟩]) r :=
  ⟨h1, h2, hj, by rw [List.length_append, h.few]; rfl, by rw [List.map_append, h.names, List.take_succ_eq_append_getElem (by omega), List.map_append, hn]; rfl, hz, by
    have hs : (if valueB v = true then partsG (fm.drop (i + 1)) s' (out ++ [⟨n, v⟩]) else none) = r := hs
    rw [if_pos hv] at hs
    exact hs⟩
theorem PartAt.below {w wr w' : World} {v8 : Value} {fm : List SHl} {i : Nat} {s : ByteArray} {out : List SL} {r : Option (List SL × ByteArray)} (h : PartAt w wr v8 fm i s out r) (hb : Below wr.heap.size wr w') : PartAt w w' v8 fm i s out r :=
  ⟨Kd.R_below h.row hb, below_step h.low hb, h.le, h.few, h.names, h.short, h.val⟩

set_option maxHeartbeats 8000000 in
set_option maxRecDepth 100000 in
theorem impl_partsOf.calls (fm : List SHl) (text : ByteArray) (A0 : Option Addr) (c0 : Nat) (w : World) (hr : Kd.C kHl w A0 fm.length fm) (hc : fm.length ≤ c0) (h1 : 1 ≤ fm.length) (h2 : fm.length ≤ 200) (ht : text.size ≤ 1000) (m : Int) (hm : w.cell? ⟨0, 0, none⟩ = some (.int .i64 m)) (hnd : (fm.dropLast.map (fun h => h.f1.data.toList)).Nodup) :
    Calls Try.prog 14 #[.slice A0 fm.length c0, .string text] w fun e w' => ∃ v0_ : Value, e = .returned (.tuple #[v0_, .bool (partsM fm text).2]) ∧ Kd.R kL 39 w' w.heap.size (fun _ => True) v0_ (partsM fm text).1 ∧ Below w.heap.size w w' := by
  have HR := Aside0.mk hr
  have HL1 := Aside0.mk h1
  have HL2 := Aside0.mk h2
  have HT := Aside0.mk ht
  have HM := Aside0.mk hm
  have HND := Aside0.mk hnd
  have HC := Aside0.mk (fun W => pcut text (rd_T49 fm 0).f0 W)
  have HCS := Aside0.mk (cutP_size text (rd_T49 fm 0).f0)
  obtain ⟨ad, ea, hx0, hx1⟩ := at_T49 hr 0 (by omega) (by omega)
  subst ea
  replace hx0 : w.cell? (ad.add 0) = some (.string (rd_T49 fm 0).f0) := hx0
  have hx0b : w.cell? ad = some (.string (rd_T49 fm 0).f0) := by first | exact hx0 | simpa using hx0
  clear hx1
  have hl0 : (0 : Int) < (fm.length : Int) := by omega
  have q0 : ((0 : Int) < (fm.length : Int)) = True := eq_true hl0
  have q1 : (0 < fm.length) = True := eq_true (by omega)
  cases hcb : (cutP text (rd_T49 fm 0).f0).2 with
  | false =>
    have e : partsM fm text = ([], false) := by unfold partsM; rw [hcb]; rfl
    rw [e]
    rw [hcb] at HC
    generalize (cutP text (rd_T49 fm 0).f0).1 = s0 at HC HCS
    clear e hcb hr hc h1 h2 ht hm hnd
    go_enter Try.func14, Try.ntmps14
    go_wp2_with (first | (go_at_call 27; refine (HC.out _).mono ?_; rintro e w2 ⟨rfl, n2, rfl⟩))
    go_ret2
    exact ⟨_, rfl, Kd.R_nil _ _ _ _ _, by repeat (first | exact Below.refl _ _ | apply pw_below_drewN | apply below_drew1 | apply below_drew)⟩
  | true =>
    rw [hcb] at HC
    obtain ⟨s0, hs0⟩ : ∃ s0, s0 = (cutP text (rd_T49 fm 0).f0).1 := ⟨_, rfl⟩
    obtain ⟨r, hrr⟩ : ∃ r, r = partsG fm s0 [] := ⟨_, rfl⟩
    have e : partsM fm text = finM r := by unfold partsM; rw [hcb, if_pos rfl, hrr, hs0]
    rw [e]
    rw [← hs0] at HC HCS
    have HVL := Aside0.mk (show partsG (fm.drop 0) s0 [] = r by rw [List.drop_zero]; exact hrr.symm)
    have HSS := Aside0.mk (show s0.size ≤ 1000 by have := HCS.out; have := HT.out; omega)
    obtain ⟨nz, hnz⟩ : ∃ nz, fm.length = nz + 1 := ⟨fm.length - 1, by omega⟩
    have HNZ := Aside0.mk hnz
    have hwz : IntKind.i64.wrap ((fm.length : Int) - 1) = (nz : Int) := by rw [i64_w]; exact wrap_pred hnz h2
    have hwz' : wrap64 ((fm.length : Int) - 1) = (nz : Int) := wrap_pred hnz h2
    have z1 : ((nz : Int) ≤ (c0 : Int)) = True := eq_true (by omega)
    have z2 : (nz ≤ c0) = True := eq_true (by omega)
    clear e hcb hr hc h1 h2 ht hm hnd hs0 hrr hnz
    go_enter Try.func14, Try.ntmps14
    go_wp2_with (first | (go_at_call 27; refine (HC.out _).mono ?_; rintro e w2 ⟨rfl, n2, rfl⟩))
    clear HC HCS
    go_loopg [6, 8, 31] nz (fun gg v6 v8 v31 wr => ∃ (i : Nat) (s : ByteArray) (out : List SL), v6 = .string s ∧ v31 = .int .i64 (i : Int) ∧ nz - i ≤ gg ∧ Aside0 (PartAt w wr v8 fm i s out r))
    case atStart => exact ⟨0, s0, [], rfl, rfl, by omega, ⟨⟨Kd.R_nil _ _ _ _ _, by repeat (first | exact Below.refl _ _ | apply pw_below_drewN | apply below_drew1 | apply below_drew), HL1.out, rfl, rfl, HSS.out, HVL.out⟩⟩⟩
    case round =>
      clear HVL HSS hx0 hx0b hl0 q0 q1 hwz hwz'
      obtain ⟨i, s, out, rfl, rfl, hg, HE⟩ := hrel
      by_cases hi : i < nz
      · have q6 : ((i : Int) < (nz : Int)) = True := eq_true (by omega)
        have hnz := HNZ.out
        have hl2 := HL2.out
        have hfi : i < fm.length := by omega
        have hfj : i + 1 < fm.length := by omega
        obtain ⟨y, hy⟩ : ∃ y : Int, y = ((i + 1 : Nat) : Int) := ⟨_, rfl⟩
        have hwy : wrap64 ((i : Int) + 1) = y := by rw [hy]; exact wrap_succ hfi (by omega)
        have hwy' : IntKind.i64.wrap ((i : Int) + 1) = y := (i64_w _).trans hwy
        have y0 : (0 ≤ y) = True := eq_true (by omega)
        have y1 : (y < (fm.length : Int)) = True := eq_true (by omega)
        obtain ⟨ad1, e1, ha0, ha1⟩ := at_T49 HR.out (i : Int) (by omega) (by omega)
        obtain rfl : ad = ad1 := Option.some.inj e1
        obtain ⟨ad2, e2, hb0, hb1⟩ := at_T49 HR.out y (by omega) (by omega)
        obtain rfl : ad = ad2 := Option.some.inj e2
        rw [Int.toNat_natCast] at ha0 ha1
        replace ha0 := (HE.out.low.cell (World.block_lt_of_cell? w _ ha0)).trans ha0
        replace ha1 := (HE.out.low.cell (World.block_lt_of_cell? w _ ha1)).trans ha1
        replace hb0 := (HE.out.low.cell (World.block_lt_of_cell? w _ hb0)).trans hb0
        have HST := Aside0.mk (step_parts (a := rd_T49 fm (i : Int)) (b := rd_T49 fm y) hfj (rdH fm i hfi) (by rw [hy]; exact rdH fm (i + 1) hfj) HE.out.val)
        have HI := Aside0.mk hi
        have HG := Aside0.mk hg
        have HY := Aside0.mk hy
        have HWY := Aside0.mk hwy
        have HFI := Aside0.mk hfi
        have HNM := Aside0.mk (show (rd_T49 fm (i : Int)).f1 = (fm[i]'HFI.out).f1 by rw [rdH fm i HFI.out])
        generalize (rd_T49 fm (i : Int)).f0 = h0 at ha0
        generalize (rd_T49 fm (i : Int)).f1 = hn at ha1 HST HNM
        generalize (rd_T49 fm y).f0 = nx at hb0 HST
        clear hb1 hi hg hy hnz hl2 hfi hfj e1 e2
        go_upto_region 8 with (fail)
        have HX := Aside0.mk (blk_new wr (.cells #[.string h0, .string hn] 49))
        have HE1 := Aside0.mk (HE.out.below (below_alloc (Below.refl _ _) (.cells #[.string h0, .string hn] 49)))
        have hc0 := ((below_alloc (Below.refl wr.heap.size wr) (.cells #[.string h0, .string hn] 49)).cell (World.block_lt_of_cell? wr _ hb0)).trans hb0
        clear ha0 ha1 hb0 HE
        generalize wr.alloc (.cells #[.string h0, .string hn] 49) = W1 at HX HE1 hc0 ⊢
        generalize wr.heap.size = gX at HX ⊢
        have HE := HE1
        clear HE1
        have hX1 : W1.cell? ⟨gX, 1, none⟩ = some (.string hn) := (blk_cell HX.out 1).trans rfl
        obtain ⟨A8, c8, e8⟩ := Kd.R_slice HE.out.row
        subst e8
        have HFJ := Aside0.mk (show i + 1 < fm.length by have := HI.out; have := HNZ.out; omega)
        by_cases he : nx.toList = ([] : List UInt8)
        · have u0 : (nx.toList == ([] : List UInt8)) = true := beq_iff_eq.mpr he
          have u1 : nx.toList.isEmpty = true := by rw [he]; rfl
          have HN := Aside0.mk (show stepP (fm.drop (i + 1)) hn out (some (s, ⟨#[]⟩)) = r by rw [← next_em s nx he]; exact HST.out)
          have HSZ := Aside0.mk (show (⟨#[]⟩ : ByteArray).size ≤ 1000 from Nat.zero_le _)
          clear he HST
          have HVA := Aside0.mk (fun W => pvalue s W)
          cases hv : valueB s with
          | false =>
            rw [hv] at HVA
            have HV := Aside0.mk (HN.out.symm.trans (step_bad _ _ _ _ _ hv))
            clear hv
            go_wp2_with (first
              | (go_at_call 29; refine (HVA.out _).mono ?_; rintro e w6 ⟨rfl, n6, rfl⟩))
            go_ret2
            rw [HV.out]
            exact ⟨_, rfl, Kd.R_nil _ _ _ _ _, (HE.out.below (by repeat (first | exact Below.refl _ _ | apply pw_below_drewN | apply below_drew1 | apply below_drew))).low⟩
          | true =>
            rw [hv] at HVA
            have HVT := Aside0.mk hv
            clear hv
            go_wp2_with (first
              | (go_at_call 29; refine (HVA.out _).mono ?_; rintro e w6 ⟨rfl, n6, rfl⟩)
              | ((with_reducible refine gate_builtin (b := .append) (xs := #[.tmp 62, .tmp 67]) rfl ?_); at_builtin
                 refine Kd.R_append kL (w0 := w) w.heap.size rfl (.tmp 62) (.tmp 67) 22 39 (.agg #[(.string ⟨#[]⟩), (.string ⟨#[]⟩)]) 32 rfl Try.underlying22 (by kernel_rfl) rfl (by decide) (by omega) _ out (⟨hn, s⟩ : SL) [.string hn, .string s] (fun _ => True) (fun _ => False) rfl (by first | (go_simp; done) | (go_simp; rfl)) ?aP (fun _ hk => hk.elim) ?aF ?aO ?aB ?aS ?aL ?_
                 (case aP => exact kL_mkM _ _ _ (⟨hn, s⟩ : SL)); (case aF => exact fun _ _ => trivial); (case aO => exact Kd.R_below HE.out.row (by repeat (first | exact Below.refl _ _ | apply pw_below_drewN | apply below_drew1 | apply below_drew))); (case aB => exact below_step HE.out.low (by repeat (first | exact Below.refl _ _ | apply pw_below_drewN | apply below_drew1 | apply below_drew))); (case aS => exact below_size (below_step HE.out.low (by repeat (first | exact Below.refl _ _ | apply pw_below_drewN | apply below_drew1 | apply below_drew)))); (case aL => have := HE.out.few; have := HI.out; have := HNZ.out; have := HL2.out; omega)
                 intro v1 w8 ho6 hb6 hg6 hat6
                 have HO6 := Aside0.mk ho6; have HB6 := Aside0.mk hb6
                 clear ho6 hb6 hg6 hat6))
            go_roundg (nz - (i + 1))
            case measure => have := HI.out; have := HG.out; omega
            case rel => exact ⟨i + 1, ⟨#[]⟩, out ++ [⟨hn, s⟩], rfl, by first | (rw [HY.out]) | (exact congrArg _ (HWY.out.trans HY.out)), by have := HI.out; omega, ⟨(HE.out.next HFJ.out HNM.out HN.out HVT.out HSZ.out HO6.out HB6.out).below (by repeat (first | exact Below.refl _ _ | apply pw_below_drewN | apply below_drew1 | apply below_drew))⟩⟩
        · have u0 : (nx.toList == ([] : List UInt8)) = false := beq_eq_false_iff_ne.mpr he
          have u1 : nx.toList.isEmpty = false := by cases h : nx.toList with | nil => exact absurd h he | cons _ _ => rfl
          have HIX := Aside0.mk (fun W hW => pindex s nx (by have := HE.out.short; omega) m W hW)
          rcases ix_cases s nx with hix | ⟨j, hix, hroom⟩
          · have HV := Aside0.mk (HST.out.symm.trans (by rw [next_no s nx he hix]; rfl) : r = none)
            rw [hix] at HIX
            clear he hix HST
            go_wp2_with (first
              | (go_at_call 28; refine (HIX.out _ (((HE.out.below (by repeat (first | exact Below.refl _ _ | apply pw_below_drewN | apply below_drew1 | apply below_drew))).low.cell (World.block_lt_of_cell? w _ HM.out)).trans HM.out)).mono ?_; rintro e w5 ⟨rfl, rfl⟩))
            go_ret2
            rw [HV.out]
            exact ⟨_, rfl, Kd.R_nil _ _ _ _ _, (HE.out.below (by repeat (first | exact Below.refl _ _ | apply pw_below_drewN | apply below_drew1 | apply below_drew))).low⟩
          · have HN := Aside0.mk (show stepP (fm.drop (i + 1)) hn out (some (s.extract 0 j, s.extract (j + nx.size) s.size)) = r by rw [← next_at s nx he hix]; exact HST.out)
            rw [hix] at HIX
            have HSZ := Aside0.mk (show (s.extract (j + nx.size) s.size).size ≤ 1000 by have := HE.out.short; rw [ext_size]; omega)
            have hsh := HE.out.short
            have c1 : (0 : Int) ≤ ↑j := by omega
            have c2 : (↑j : Int) ≤ ↑s.size := by omega
            have c3 : (0 : Int) ≤ ↑j + ↑nx.size := by omega
            have c4 : (↑j + ↑nx.size : Int) ≤ ↑s.size := by omega
            have c5 : ¬ (↑j : Int) < 0 := by omega
            clear he hix HST hroom
            have HVA := Aside0.mk (fun W => pvalue (s.extract 0 j) W)
            cases hv : valueB (s.extract 0 j) with
            | false =>
              rw [hv] at HVA
              have HV := Aside0.mk (HN.out.symm.trans (step_bad _ _ _ _ _ hv))
              clear hv
              go_wp2_with (first
                | (go_at_call 28; refine (HIX.out _ (((HE.out.below (by repeat (first | exact Below.refl _ _ | apply pw_below_drewN | apply below_drew1 | apply below_drew))).low.cell (World.block_lt_of_cell? w _ HM.out)).trans HM.out)).mono ?_; rintro e w5 ⟨rfl, rfl⟩))
              go_region
              go_wp2_with (first
                | (go_at_call 29; refine (HVA.out _).mono ?_; rintro e w6 ⟨rfl, n6, rfl⟩))
              go_ret2
              rw [HV.out]
              exact ⟨_, rfl, Kd.R_nil _ _ _ _ _, (HE.out.below (by repeat (first | exact Below.refl _ _ | apply pw_below_drewN | apply below_drew1 | apply below_drew))).low⟩
            | true =>
              rw [hv] at HVA
              have HVT := Aside0.mk hv
              clear hv
              go_wp2_with (first
                | (go_at_call 28; refine (HIX.out _ (((HE.out.below (by repeat (first | exact Below.refl _ _ | apply pw_below_drewN | apply below_drew1 | apply below_drew))).low.cell (World.block_lt_of_cell? w _ HM.out)).trans HM.out)).mono ?_; rintro e w5 ⟨rfl, rfl⟩))
              go_region
              go_wp2_with (first
                | (go_at_call 29; refine (HVA.out _).mono ?_; rintro e w6 ⟨rfl, n6, rfl⟩)
                | ((with_reducible refine gate_builtin (b := .append) (xs := #[.tmp 62, .tmp 67]) rfl ?_); at_builtin
                   refine Kd.R_append kL (w0 := w) w.heap.size rfl (.tmp 62) (.tmp 67) 22 39 (.agg #[(.string ⟨#[]⟩), (.string ⟨#[]⟩)]) 32 rfl Try.underlying22 (by kernel_rfl) rfl (by decide) (by omega) _ out (⟨hn, (s.extract 0 j)⟩ : SL) [.string hn, .string (s.extract 0 j)] (fun _ => True) (fun _ => False) rfl (by first | (go_simp; done) | (go_simp; rfl)) ?aP (fun _ hk => hk.elim) ?aF ?aO ?aB ?aS ?aL ?_
                   (case aP => exact kL_mkM _ _ _ (⟨hn, (s.extract 0 j)⟩ : SL)); (case aF => exact fun _ _ => trivial); (case aO => exact Kd.R_below HE.out.row (by repeat (first | exact Below.refl _ _ | apply pw_below_drewN | apply below_drew1 | apply below_drew))); (case aB => exact below_step HE.out.low (by repeat (first | exact Below.refl _ _ | apply pw_below_drewN | apply below_drew1 | apply below_drew))); (case aS => exact below_size (below_step HE.out.low (by repeat (first | exact Below.refl _ _ | apply pw_below_drewN | apply below_drew1 | apply below_drew)))); (case aL => have := HE.out.few; have := HI.out; have := HNZ.out; have := HL2.out; omega)
                   intro v1 w8 ho6 hb6 hg6 hat6
                   have HO6 := Aside0.mk ho6; have HB6 := Aside0.mk hb6
                   clear ho6 hb6 hg6 hat6))
              go_roundg (nz - (i + 1))
              case measure => have := HI.out; have := HG.out; omega
              case rel => exact ⟨i + 1, s.extract (j + nx.size) s.size, out ++ [⟨hn, (s.extract 0 j)⟩], rfl, by first | (rw [HY.out]) | (exact congrArg _ (HWY.out.trans HY.out)), by have := HI.out; omega, ⟨(HE.out.next HFJ.out HNM.out HN.out HVT.out HSZ.out HO6.out HB6.out).below (by repeat (first | exact Below.refl _ _ | apply pw_below_drewN | apply below_drew1 | apply below_drew))⟩⟩
      · have q6 : ((i : Int) < (nz : Int)) = False := eq_false (by omega)
        have hle := HE.out.le
        have hnz := HNZ.out
        have hin : i = nz := by omega
        have hV : r = some (out, s) := by
          rw [← HE.out.val, List.drop_eq_getElem_cons (by omega : i < fm.length), List.drop_of_length_le (by omega)]
          rfl
        have HV := Aside0.mk hV
        have HNO := Aside0.mk (show (out.map nameOf).Nodup by rw [HE.out.names, hin, show nz = fm.length - 1 by omega, ← List.dropLast_eq_take]; exact HND.out)
        have HLO := Aside0.mk (show out.length ≤ 1000 by have := HE.out.few; have := HL2.out; omega)
        have HSL := Aside0.mk (fun W hb => sort_of (w0 := w) (w := W) (Kd.R_below HE.out.row hb) (below_step HE.out.low hb) HLO.out)
        clear hle hnz hin hV hi hg
        by_cases he : s.toList = ([] : List UInt8)
        · have u0 : (s.toList == ([] : List UInt8)) = true := beq_iff_eq.mpr he
          have u1 : s.toList.isEmpty = true := by rw [he]; rfl
          have HEM := Aside0.mk (show emB s = true from decide_eq_true he)
          clear he
          go_wp2_with (go_at_call 30; refine (HSL.out _ (by repeat (first | exact Below.refl _ _ | apply pw_below_drewN | apply below_drew1 | apply below_drew))).mono ?_; rintro e w9 ⟨rfl, out', hp, hs, hr9, hb9⟩)
          go_ret2
          have e := sorted_eq HNO.out hp (hs.imp (fun h => Int.not_lt.2 h))
          rw [HV.out]
          exact ⟨_, by rw [show (finM (some (out, s))).2 = emB s from rfl, HEM.out]; rfl, by rw [show (finM (some (out, s))).1 = sortM out from rfl, ← e]; exact Kd.R_below hr9 (by repeat (first | exact Below.refl _ _ | apply pw_below_drewN | apply below_drew1 | apply below_drew)), below_step hb9 (by repeat (first | exact Below.refl _ _ | apply pw_below_drewN | apply below_drew1 | apply below_drew))⟩
        · have u0 : (s.toList == ([] : List UInt8)) = false := beq_eq_false_iff_ne.mpr he
          have u1 : s.toList.isEmpty = false := by cases h : s.toList with | nil => exact absurd h he | cons _ _ => rfl
          have HEM := Aside0.mk (show emB s = false from decide_eq_false he)
          clear he
          go_wp2_with (go_at_call 30; refine (HSL.out _ (by repeat (first | exact Below.refl _ _ | apply pw_below_drewN | apply below_drew1 | apply below_drew))).mono ?_; rintro e w9 ⟨rfl, out', hp, hs, hr9, hb9⟩)
          go_ret2
          have e := sorted_eq HNO.out hp (hs.imp (fun h => Int.not_lt.2 h))
          rw [HV.out]
          exact ⟨_, by rw [show (finM (some (out, s))).2 = emB s from rfl, HEM.out]; rfl, by rw [show (finM (some (out, s))).1 = sortM out from rfl, ← e]; exact Kd.R_below hr9 (by repeat (first | exact Below.refl _ _ | apply pw_below_drewN | apply below_drew1 | apply below_drew)), below_step hb9 (by repeat (first | exact Below.refl _ _ | apply pw_below_drewN | apply below_drew1 | apply below_drew))⟩
/-! ### PartsOf -/
theorem formL_facts (p : ByteArray) : ∀ (N x : Nat) (t : ByteArray) (out : List SHl), (out.map (fun h => h.f1.data.toList)).Nodup → out.length ≤ x → x ≤ p.size → (formL p N (x : Int) t out).2 = true → 1 ≤ (formL p N (x : Int) t out).1.length ∧ (formL p N (x : Int) t out).1.length ≤ p.size + 1 ∧ ((formL p N (x : Int) t out).1.dropLast.map (fun h => h.f1.data.toList)).Nodup := by
  intro N
  induction N with
  | zero => intro x t out hn hl hx h; unfold formL at h; exact absurd h (by decide)
  | succ N ih =>
    intro x t out hn hl hx h
    by_cases hlt : x < p.size
    · rw [formL_step p N x t out hlt] at h ⊢
      by_cases hc : bt p x = 60 ∧ fok p x = true
      · rw [if_pos hc] at h ⊢
        by_cases hd : fdup p x t out = true
        · rw [if_pos hd] at h; exact absurd h (by decide)
        · rw [if_neg hd] at h ⊢
          have hroom := fok_room hlt hc.2
          refine ih _ _ _ ?_ (by rw [List.length_append]; show out.length + 1 ≤ _; omega) hroom h
          rw [List.map_append, List.nodup_append]
          refine ⟨hn, by simp, fun a ha b hb => ?_⟩
          have hb : b = (wordM (fq p x)).1.data.toList := by simpa using hb
          rw [hb]
          intro e
          refine hd ?_
          unfold fdup
          rw [decide_eq_true (e ▸ ha), Bool.true_or]
      · rw [if_neg hc] at h ⊢
        exact ih (x + 1) _ out hn (by omega) hlt h
    · have e : formL p (N + 1) (x : Int) t out = (out ++ [⟨t, ⟨#[]⟩⟩], decide (0 < out.length)) := by unfold formL; rw [if_neg (by omega)]
      rw [e]
      refine ⟨by rw [List.length_append]; exact Nat.le_add_left _ _, by rw [List.length_append]; show out.length + 1 ≤ _; omega, ?_⟩
      rw [List.dropLast_concat]
      exact hn
theorem formM_facts (p : ByteArray) (h : (formM p).2 = true) : 1 ≤ (formM p).1.length ∧ (formM p).1.length ≤ 200 ∧ ((formM p).1.dropLast.map (fun h => h.f1.data.toList)).Nodup := by
  unfold formM at h ⊢
  by_cases hc : (decide (p.toList = []) || !(decide (p.size ≤ 100) && printedB p)) = true
  · rw [if_pos hc] at h; exact absurd h (by decide)
  · rw [if_neg hc] at h ⊢
    have hs : p.size ≤ 100 := by
      simp only [Bool.or_eq_true, Bool.not_eq_true', not_or, Bool.not_eq_false, Bool.and_eq_true, decide_eq_true_eq] at hc
      exact hc.2.1
    obtain ⟨a, b, c⟩ := formL_facts p (p.size + 1) 0 ⟨#[]⟩ [] List.nodup_nil (Nat.le_refl _) (Nat.zero_le _) h
    exact ⟨a, Nat.le_trans b (by omega), c⟩
def partsOfM (a0 a1 : ByteArray) : List SL × Bool := if ((formM a0).2 && (decide ((a1.size : Int) ≤ 500) && printedB a1)) = true then (if (partsM (formM a0).1 a1).2 = true then ((partsM (formM a0).1 a1).1, true) else ([], false)) else ([], false)
def impl_PartsOf.f (a0 a1 : ByteArray) : Option (List SL × Bool) := some (partsOfM a0 a1)
theorem pprinted (p : ByteArray) (w : World) : Calls Try.prog 13 #[.string p, .int .i64 500] w fun e w' => e = .returned (.bool (decide ((p.size : Int) ≤ 500) && printedB p)) ∧ Drawn0 w w' := by
  obtain ⟨k, hk⟩ := EvP.rounds (implPrinted_ev p 500 (by omega))
  exact impl_printed.calls k p 500 _ w hk
set_option maxHeartbeats 8000000 in
set_option maxRecDepth 100000 in
theorem impl_PartsOf.calls (a0 a1 : ByteArray) (r1 : List SL) (r2 : Bool) (w : World) (m : Int) (hm : w.cell? ⟨0, 0, none⟩ = some (.int .i64 m)) (h : impl_PartsOf.f a0 a1 = some (r1, r2)) :
    Calls Try.prog 5 #[.string a0, .string a1] w fun e w' => ∃ v0_ : Value, e = .returned (.tuple #[v0_, .bool r2]) ∧ Kd.R kL 39 w' w.heap.size (fun _ => True) v0_ r1 ∧ Below w.heap.size w w' := by
  have h : partsOfM a0 a1 = (r1, r2) := Option.some.inj h
  have HF := Aside0.mk (fun W => impl_formOf.calls a0 W)
  have HPR := Aside0.mk (fun W => pprinted a1 W)
  have hff := formM_facts a0
  have HM := Aside0.mk hm
  unfold partsOfM at h
  generalize (formM a0).1 = fm at HF hff h
  generalize (formM a0).2 = b at HF hff h
  clear hm
  cases b with
  | false =>
    rw [Bool.false_and, if_neg (by decide)] at h
    obtain ⟨rfl, rfl⟩ := Prod.mk.inj h
    clear h hff HPR
    go_enter Try.func5, Try.ntmps5
    go_wp2_with (first
      | (go_at_call 12; refine (HF.out _).mono ?_; rintro e w2 ⟨v2, rfl, hr2, hb2⟩; obtain ⟨A2, c2, rfl⟩ := Kd.R_slice hr2; have HR2 := Aside0.mk hr2; have HB2 := Aside0.mk (below_step (by repeat (first | exact Below.refl _ _ | apply pw_below_drewN | apply below_drew1 | apply below_drew)) hb2 : Below w.heap.size w w2); clear hr2 hb2))
    go_ret2
    exact ⟨_, rfl, Kd.R_nil _ _ _ _ _, below_step HB2.out (by repeat (first | exact Below.refl _ _ | apply pw_below_drewN | apply below_drew1 | apply below_drew))⟩
  | true =>
    obtain ⟨f1, f2, f3⟩ := hff rfl
    clear hff
    rw [Bool.true_and] at h
    cases hb : (decide ((a1.size : Int) ≤ 500) && printedB a1) with
    | false =>
      rw [hb] at HPR h
      rw [if_neg (by decide)] at h
      obtain ⟨rfl, rfl⟩ := Prod.mk.inj h
      clear h hb f1 f2 f3
      go_enter Try.func5, Try.ntmps5
      go_wp2_with (first
        | (go_at_call 12; refine (HF.out _).mono ?_; rintro e w2 ⟨v2, rfl, hr2, hb2⟩; obtain ⟨A2, c2, rfl⟩ := Kd.R_slice hr2; have HR2 := Aside0.mk hr2; have HB2 := Aside0.mk (below_step (by repeat (first | exact Below.refl _ _ | apply pw_below_drewN | apply below_drew1 | apply below_drew)) hb2 : Below w.heap.size w w2); clear hr2 hb2)
        | (go_at_call 13; refine (HPR.out _).mono ?_; rintro e w3 ⟨rfl, n3, rfl⟩))
      go_ret2
      exact ⟨_, rfl, Kd.R_nil _ _ _ _ _, below_step HB2.out (by repeat (first | exact Below.refl _ _ | apply pw_below_drewN | apply below_drew1 | apply below_drew))⟩
    | true =>
      rw [hb] at HPR h
      rw [if_pos rfl] at h
      have ht : a1.size ≤ 1000 := by simp only [Bool.and_eq_true, decide_eq_true_eq] at hb; omega
      have HPP := Aside0.mk (fun A c W hC hc hm => impl_partsOf.calls fm a1 A c W hC hc f1 f2 ht m hm f3)
      clear hb f1 f2 f3 ht
      generalize (partsM fm a1).1 = o1 at HPP h
      generalize (partsM fm a1).2 = o2 at HPP h
      cases o2 with
      | false =>
        rw [if_neg (by decide)] at h
        obtain ⟨rfl, rfl⟩ := Prod.mk.inj h
        clear h
        go_enter Try.func5, Try.ntmps5
        go_wp2_with (first
          | (go_at_call 12; refine (HF.out _).mono ?_; rintro e w2 ⟨v2, rfl, hr2, hb2⟩; obtain ⟨A2, c2, rfl⟩ := Kd.R_slice hr2; have HR2 := Aside0.mk hr2; have HB2 := Aside0.mk (below_step (by repeat (first | exact Below.refl _ _ | apply pw_below_drewN | apply below_drew1 | apply below_drew)) hb2 : Below w.heap.size w w2); clear hr2 hb2)
          | (go_at_call 13; refine (HPR.out _).mono ?_; rintro e w3 ⟨rfl, n3, rfl⟩)
          | (go_at_call 14; refine (HPP.out _ _ _ (Kd.R_reads' (Kd.R_below HR2.out (by repeat (first | exact Below.refl _ _ | apply pw_below_drewN | apply below_drew1 | apply below_drew)))).2.2 (Kd.R_reads' (Kd.R_below HR2.out (by repeat (first | exact Below.refl _ _ | apply pw_below_drewN | apply below_drew1 | apply below_drew)))).2.1 (((below_step HB2.out (by repeat (first | exact Below.refl _ _ | apply pw_below_drewN | apply below_drew1 | apply below_drew))).cell (World.block_lt_of_cell? w _ HM.out)).trans HM.out)).mono ?_; rintro e w4 ⟨v4, rfl, hr4, hb4⟩; have HR4 := Aside0.mk (Kd.R_lower hr4 (below_size (below_step HB2.out (by repeat (first | exact Below.refl _ _ | apply pw_below_drewN | apply below_drew1 | apply below_drew))))); have HB4 := Aside0.mk (below_step (below_step HB2.out (by repeat (first | exact Below.refl _ _ | apply pw_below_drewN | apply below_drew1 | apply below_drew))) hb4); clear hr4 hb4))
        go_ret2
        exact ⟨_, rfl, Kd.R_nil _ _ _ _ _, below_step HB4.out (by repeat (first | exact Below.refl _ _ | apply pw_below_drewN | apply below_drew1 | apply below_drew))⟩
      | true =>
        rw [if_pos rfl] at h
        obtain ⟨rfl, rfl⟩ := Prod.mk.inj h
        clear h
        go_enter Try.func5, Try.ntmps5
        go_wp2_with (first
          | (go_at_call 12; refine (HF.out _).mono ?_; rintro e w2 ⟨v2, rfl, hr2, hb2⟩; obtain ⟨A2, c2, rfl⟩ := Kd.R_slice hr2; have HR2 := Aside0.mk hr2; have HB2 := Aside0.mk (below_step (by repeat (first | exact Below.refl _ _ | apply pw_below_drewN | apply below_drew1 | apply below_drew)) hb2 : Below w.heap.size w w2); clear hr2 hb2)
          | (go_at_call 13; refine (HPR.out _).mono ?_; rintro e w3 ⟨rfl, n3, rfl⟩)
          | (go_at_call 14; refine (HPP.out _ _ _ (Kd.R_reads' (Kd.R_below HR2.out (by repeat (first | exact Below.refl _ _ | apply pw_below_drewN | apply below_drew1 | apply below_drew)))).2.2 (Kd.R_reads' (Kd.R_below HR2.out (by repeat (first | exact Below.refl _ _ | apply pw_below_drewN | apply below_drew1 | apply below_drew)))).2.1 (((below_step HB2.out (by repeat (first | exact Below.refl _ _ | apply pw_below_drewN | apply below_drew1 | apply below_drew))).cell (World.block_lt_of_cell? w _ HM.out)).trans HM.out)).mono ?_; rintro e w4 ⟨v4, rfl, hr4, hb4⟩; have HR4 := Aside0.mk (Kd.R_lower hr4 (below_size (below_step HB2.out (by repeat (first | exact Below.refl _ _ | apply pw_below_drewN | apply below_drew1 | apply below_drew))))); have HB4 := Aside0.mk (below_step (below_step HB2.out (by repeat (first | exact Below.refl _ _ | apply pw_below_drewN | apply below_drew1 | apply below_drew))) hb4); clear hr4 hb4))
        go_ret2
        exact ⟨_, rfl, Kd.R_below HR4.out (by repeat (first | exact Below.refl _ _ | apply pw_below_drewN | apply below_drew1 | apply below_drew)), below_step HB4.out (by repeat (first | exact Below.refl _ _ | apply pw_below_drewN | apply below_drew1 | apply below_drew))⟩
end Go.Proofs.Ytpnldoegchjmmaa.PFnExactPartsOf
