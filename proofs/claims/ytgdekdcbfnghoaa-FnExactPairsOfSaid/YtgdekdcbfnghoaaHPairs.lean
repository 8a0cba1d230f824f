/- The walk of pairsOf (written by pairsgen.py). -/
import Derived.Test.YtgdekdcbfnghoaaPairs
import Derived.Test.YtgdekdcbfnghoaaSet
import Derived.Test.YtgdekdcbfnghoaaPFnExactPairsOfx2
namespace Go.Proofs.Ytgdekdcbfnghoaa.PFnExactPairsOf
attribute [local go_sem] Go.Proofs.Ytgdekdcbfnghoaa.Cmp.str_gtr Go.Proofs.Ytgdekdcbfnghoaa.Cmp.str_geq Go.Proofs.Ytgdekdcbfnghoaa.Cmp.str_leq
open Go.RowKit Go.Maps Go.Proofs.YtgdekdcbfnghoaaW.PrintWords Go.Proofs.YtgdekdcbfnghoaaW.PrintLast Go.Proofs.YtgdekdcbfnghoaaW.PrintMore Go.Proofs.Ytgdekdcbfnghoaa.Evs Go.Proofs.Ytgdekdcbfnghoaa.AFnExactPairsOf Go.Proofs.Ytgdekdcbfnghoaa.PrtFnExactPairsOf Go.Proofs.Ytgdekdcbfnghoaa.Pairs Go.Proofs.Ytgdekdcbfnghoaa.TxtSet
set_option linter.unusedVariables false
set_option linter.unusedSimpArgs false
theorem fown_at {w w' : World} {P : Program} {k : TypeId} {R : Value → Option (DataW Unit × List MemPlace)} {b n : Nat} {D : DataW Unit} (h : w.ownsMap P k R b n D) (e : w'.heap[b]? = w.heap[b]?) : w'.ownsMap P k R b n D := by
  obtain ⟨es, c, h1, h2⟩ := h
  exact ⟨es, c, e.trans h1, h2⟩
theorem fown_lt {w : World} {P : Program} {k : TypeId} {R : Value → Option (DataW Unit × List MemPlace)} {b n : Nat} {D : DataW Unit} (h : w.ownsMap P k R b n D) : b < w.heap.size := by
  obtain ⟨es, c, h1, _⟩ := h
  exact (Array.getElem?_eq_some_iff.1 h1).1
theorem fzero (w : World) : (zeroValue 4).run Try.prog w = .ok (.bool false) w := by kernel_rfl
def impl_pairsOf.f (a0 : ByteArray) : Option (List SL) := if a0.size ≤ 1000 then some (pairsM a0) else none
theorem ppieces (p : ByteArray) (hp : p.size ≤ 1000000) (w : World) : Calls Try.prog 24 #[.string p] w fun e w' => ∃ v0_ : Value, e = .returned v0_ ∧ Kd.R Kd.string 9 w' w.heap.size (fun _ => True) v0_ (piecesM p) ∧ Below w.heap.size w w' := by
  obtain ⟨k, hk⟩ := EvP.rounds (pieces_ev p hp)
  exact impl_pieces.calls k p _ w hk
theorem pname (q : ByteArray) (w : World) : Calls Try.prog 26 #[.string q] w fun e w' => e = .returned (.bool (nameB q)) ∧ Drawn0 w w' := by
  obtain ⟨k, hk⟩ := EvP.rounds (impl_isName_ev q)
  exact impl_isName.calls k q _ w hk
theorem phead (q : ByteArray) (w : World) : Calls Try.prog 27 #[.string q, .string ⟨#[34]⟩] w fun e w' => e = .returned (.bool (preB 34 q)) ∧ Drawn0 w w' := strings_HasPrefix.calls q ⟨#[34]⟩ _ w (prefix_ev 34 q)
theorem punq (v : ByteArray) (hv : v.size ≤ 1000000) (w : World) : Calls Try.prog 28 #[.string v] w fun e w' => e = .returned (.tuple #[.string (unqR v).1, .string (unqR v).2.1, .bool (unqR v).2.2]) ∧ Below w.heap.size w w' := by
  obtain ⟨k, hk⟩ := EvP.rounds (unquote_ev v hv)
  exact impl_unquote.calls k v _ _ _ w hk
theorem pvalue (v : ByteArray) (w : World) : Calls Try.prog 29 #[.string v] w fun e w' => e = .returned (.bool (valueB v)) ∧ Drawn0 w w' := by
  obtain ⟨k, hk⟩ := EvP.rounds (implValue_ev v)
  exact impl_isValue.calls k v _ w hk
theorem cutM_size (p : ByteArray) : (cutM p).1.size ≤ p.size ∧ (cutM p).2.1.size ≤ p.size := by
  unfold cutM
  split
  · simp only [ext_size]; omega
  · exact ⟨Nat.le_refl _, Nat.zero_le _⟩
/-! ### The step, over what the callees answer -/
def valN (v t rest : ByteArray) (k : Bool) : Option ByteArray := if preB 34 v = true then (if (k && emB rest) = true then some t else none) else some v
def stepN (out : List SL) (n : ByteArray) (c : Bool) (m : Option ByteArray) : List SL := if (c && nameB n) = true then (match m with
  | none => out
  | some v => putI out n v) else out
theorem stepI_eq (out : List SL) (p : ByteArray) : stepI out p = stepN out (cutM p).1 (cutM p).2.2 (valN (cutM p).2.1 (unqR (cutM p).2.1).1 (unqR (cutM p).2.1).2.1 (unqR (cutM p).2.1).2.2) := rfl
theorem step_c (out : List SL) (n : ByteArray) (m : Option ByteArray) : stepN out n false m = out := rfl
theorem step_n (out : List SL) (n : ByteArray) (c : Bool) (m : Option ByteArray) (h : nameB n = false) : stepN out n c m = out := by unfold stepN; rw [h, Bool.and_false, if_neg (by decide)]
theorem step_m (out : List SL) (n : ByteArray) (c : Bool) : stepN out n c none = out := by unfold stepN; split <;> rfl
theorem step_v (out : List SL) (n : ByteArray) (v : ByteArray) (h : nameB n = true) : stepN out n true (some v) = putI out n v := by unfold stepN; rw [h]; rfl
theorem val_q (v t rest : ByteArray) (k : Bool) (h : preB 34 v = false) : valN v t rest k = some v := by unfold valN; rw [h, if_neg (by decide)]
theorem val_k (v t rest : ByteArray) (h : preB 34 v = true) : valN v t rest false = none := by unfold valN; rw [h]; rfl
theorem val_r (v t rest : ByteArray) (k : Bool) (h : preB 34 v = true) (hr : emB rest = false) : valN v t rest k = none := by unfold valN; rw [h, hr, Bool.and_false]; rfl
theorem val_t (v t rest : ByteArray) (h : preB 34 v = true) (hr : emB rest = true) : valN v t rest true = some t := by unfold valN; rw [h, hr]; rfl
theorem put_v (out : List SL) (n v : ByteArray) (h : valueB v = false) : putI out n v = out := by unfold putI; rw [h]; rfl
theorem put_h (out : List SL) (n v : ByteArray) (h : hasN out n = true) : putI out n v = out := by unfold putI; rw [h]; simp
theorem put_l (out : List SL) (n v : ByteArray) (h : ¬ out.length < 20) : putI out n v = out := by unfold putI; rw [decide_eq_false h]; simp
theorem put_t (out : List SL) (n v : ByteArray) (h1 : valueB v = true) (h2 : hasN out n = false) (h3 : out.length < 20) : putI out n v = out ++ [⟨n, v⟩] := by unfold putI; rw [h1, h2, decide_eq_true h3]; rfl
theorem kL_mkM (w : World) (base : Nat) (ok : Nat → Prop) (x : SL) : kL.M w base ok x [.string x.f0, .string x.f1] := ⟨[.string x.f0], [.string x.f1], rfl, rfl, rfl⟩
/-! ### What the loop keeps -/
structure PairAt (w wr : World) (b : Nat) (v3 v15 : Value) (P : List ByteArray) (i : Nat) (out r : List SL) : Prop where
  row : Kd.R kL 30 wr w.heap.size (fun k => k ≠ b) v3 out
  ps : Kd.R Kd.string 9 wr w.heap.size (fun k => k ≠ b) v15 P
  map : ∃ D, wr.ownsMap Try.prog 9 RB b out.length D ∧ SetOk D (out.map nameOf)
  low : Below w.heap.size w wr
  ge : w.heap.size ≤ b
  le : i ≤ P.length
  few : out.length ≤ 20
  nodup : (out.map nameOf).Nodup
  val : (P.drop i).foldl stepI out = r
theorem PairAt.below {w wr w' : World} {b : Nat} {v3 v15 : Value} {P : List ByteArray} {i : Nat} {out r : List SL} (h : PairAt w wr b v3 v15 P i out r) (hb : Below wr.heap.size wr w') : PairAt w w' b v3 v15 P i out r := by
  obtain ⟨D, h1, h2⟩ := h.map
  exact ⟨Kd.R_below h.row hb, Kd.R_below h.ps hb, ⟨D, fown_at h1 (hb.block _ (fown_lt h1)), h2⟩, below_step h.low hb, h.ge, h.le, h.few, h.nodup, h.val⟩
theorem PairAt.next {w wr : World} {b : Nat} {v3 v15 : Value} {P : List ByteArray} {i : Nat} {out r : List SL} (h : PairAt w wr b v3 v15 P i out r) (hi : i < P.length) {p : ByteArray} (hp : P[i] = p) (hs : stepI out p = out) : PairAt w wr b v3 v15 P (i + 1) out r := by
  refine ⟨h.row, h.ps, h.map, h.low, h.ge, hi, h.few, h.nodup, ?_⟩
  have hv := h.val
  rw [List.drop_eq_getElem_cons hi, List.foldl_cons, hp, hs] at hv
  exact hv
theorem PairAt.added {w wr w4 w5 : World} {b : Nat} {v3 v15 : Value} {P : List ByteArray} {i : Nat} {out r : List SL} (h : PairAt w wr b v3 v15 P i out r) (hb : Below wr.heap.size wr w4) (hg : w4.grownBy w5 (some b)) : Kd.R kL 30 w5 w.heap.size (fun k => k ≠ b) v3 out ∧ Kd.R Kd.string 9 w5 w.heap.size (fun k => k ≠ b) v15 P ∧ Below w.heap.size w w5 := by
  have h4 := h.below hb
  refine ⟨Kd.R_step h4.row (fun k hk hlt => hg.block k hlt (fun he => hk (by injection he))), Kd.R_step h4.ps (fun k hk hlt => hg.block k hlt (fun he => hk (by injection he))), h4.low.grown hg (below_size h4.low) (fun k hk => ?_)⟩
  have e : b = k := by injection hk
  rw [← e]
  exact h4.ge
theorem PairAt.put {w wr w1 : World} {b : Nat} {v3 v15 v1 : Value} {P : List ByteArray} {i : Nat} {out r : List SL} (h : PairAt w wr b v3 v15 P i out r) (hi : i < P.length) {p : ByteArray} (hp : P[i] = p) {n v : ByteArray} (hs : stepI out p = out ++ [⟨n, v⟩]) (hh : hasN out n = false) (hl : out.length < 20)
    (h1 : Kd.R kL 30 w1 w.heap.size (fun k => k ≠ b) v1 (out ++ [⟨n, v⟩])) (h2 : Kd.R Kd.string 9 w1 w.heap.size (fun k => k ≠ b) v15 P) {D : DataW Unit} (h3 : w1.ownsMap Try.prog 9 RB b (out.length + 1) D) (h4 : SetOk D (out.map nameOf ++ [n.data.toList])) (h5 : Below w.heap.size w w1) :
    PairAt w w1 b v1 v15 P (i + 1) (out ++ [⟨n, v⟩]) r := by
  have hv := h.val
  rw [List.drop_eq_getElem_cons hi, List.foldl_cons, hp, hs] at hv
  refine ⟨h1, h2, ⟨D, by rw [List.length_append]; exact h3, by rw [List.map_append]; exact h4⟩, h5, h.ge, hi, by rw [List.length_append]; exact hl, ?_, hv⟩
  rw [List.map_append, List.nodup_append]
  refine ⟨h.nodup, by simp, fun a ha c hc => ?_⟩
  have hc : c = n.data.toList := by simpa [nameOf] using hc
  rw [hc]
  exact fun e => hasN_false hh (e ▸ ha)
theorem PairAt.done {w wr : World} {b : Nat} {v3 v15 : Value} {P : List ByteArray} {i : Nat} {out r : List SL} (h : PairAt w wr b v3 v15 P i out r) (hi : ¬ i < P.length) : out = r := by
  have hv := h.val
  have := h.le
  rw [List.drop_of_length_le (by omega)] at hv
  exact hv
theorem start_at {w W w2 : World} {v15 : Value} {P : List ByteArray} (hw : Below w.heap.size w W) (hz : W.heap.size = w.heap.size + 1) (hm : W.ownsMap Try.prog 9 RB w.heap.size 0 (.map [])) (hr : Kd.R Kd.string 9 w2 W.heap.size (fun _ => True) v15 P) (hb : Below W.heap.size W w2) :
    PairAt w w2 w.heap.size (.slice none 0 0) v15 P 0 [] (P.foldl stepI []) := by
  refine ⟨Kd.R_nil _ _ _ _ _, Kd.R_lower (Kd.R_mono (Kd.R_bound hr) (fun k hk => by have := hk.2.1; omega)) (by omega), ⟨_, fown_at hm (hb.block _ (by omega)), SetOk.nil⟩, below_step hw hb, Nat.le_refl _, Nat.zero_le _, Nat.zero_le _, List.nodup_nil, rfl⟩
set_option maxHeartbeats 8000000 in
set_option maxRecDepth 100000 in
theorem impl_pairsOf.calls (a0 : ByteArray) (r : List SL) (w : World) (h : impl_pairsOf.f a0 = some r) : Calls Try.prog 12 #[.string a0] w fun e w' => ∃ v0_ : Value, e = .returned v0_ ∧ Kd.R kL 30 w' w.heap.size (fun _ => True) v0_ r ∧ Below w.heap.size w w' := by
  have hz : a0.size ≤ 1000 := by
    unfold impl_pairsOf.f at h
    by_cases hc : a0.size ≤ 1000
    · exact hc
    · rw [if_neg hc] at h; exact absurd h (by simp)
  unfold impl_pairsOf.f at h
  rw [if_pos hz] at h
  have hr : sortM ((piecesM a0).foldl stepI []) = r := Option.some.inj h
  have HPC := Aside0.mk (fun W => ppieces a0 (by omega) W)
  have HPS := Aside0.mk (piecesM_size a0)
  have HPL := Aside0.mk (piecesM_len a0)
  have HZ := Aside0.mk hz
  generalize piecesM a0 = P at HPC HPS HPL hr
  have HR := Aside0.mk hr
  clear h hz hr
  have hmm := @run_makeMap Try.prog
  go_enter Try.func12, Try.ntmps12
  go_wp2_with (first
    | (go_at_call 24; refine (HPC.out _).mono ?_; rintro e w2 ⟨v15, rfl, hr2, hb2⟩
       have HS2 := Aside0.mk (start_at (w := w) (below_alloc (by repeat (first | exact Below.refl _ _ | apply pw_below_drewN | apply below_drew1 | apply below_drew)) _) (by first | rfl | simp) (World.ownsMap_made _ _ _ _) hr2 hb2)
       obtain ⟨A15, c15, rfl⟩ := Kd.R_slice hr2
       clear hr2 hb2 HPC hmm))
  go_loopg [3, 17] P.length (fun gg v3 v17 wr => ∃ (i : Nat) (out : List SL), v17 = .int .i64 (i : Int) ∧ P.length - i ≤ gg ∧ Aside0 (PairAt w wr w.heap.size v3 (.slice A15 P.length c15) P i out (P.foldl stepI [])))
  case atStart => exact ⟨0, [], rfl, by omega, HS2⟩
  case round =>
    clear HS2
    obtain ⟨i, out, rfl, hg, HE⟩ := hrel
    by_cases hi : i < P.length
    · have hiz : (i : Int) < (P.length : Int) := by omega
      obtain ⟨ad, e15, hx⟩ := Kd.at_string (Kd.R_reads' HE.out.ps).2.2 (i : Int) (by omega) hiz
      cases e15
      rw [rdOf_get _ P i hi, Int.toNat_natCast] at hx
      have HI := Aside0.mk hi
      have HG := Aside0.mk hg
      have hpl := HPL.out
      have hzz := HZ.out
      have HSZ := Aside0.mk (show P[i].size ≤ 1000000 by have := HPS.out P[i] (List.getElem_mem hi); omega)
      obtain ⟨p, hp⟩ : ∃ p, P[i]'HI.out = p := ⟨_, rfl⟩
      have HP := Aside0.mk hp
      rw [hp] at hx HSZ
      have HC := Aside0.mk (fun W => cut_of p HSZ.out W)
      have HST := Aside0.mk (stepI_eq out p)
      have HNZ := Aside0.mk (show (cutM p).1.size ≤ 1000000 ∧ (cutM p).2.1.size ≤ 1000000 by have := cutM_size p; have := HSZ.out; omega)
      have HU := Aside0.mk (fun W => punq (cutM p).2.1 HNZ.out.2 W)
      generalize (unqR (cutM p).2.1).1 = t at HST HU
      generalize (unqR (cutM p).2.1).2.1 = s at HST HU
      generalize (unqR (cutM p).2.1).2.2 = k at HST HU
      generalize (cutM p).1 = n at HC HST HNZ
      generalize (cutM p).2.1 = v at HC HST HNZ HU
      generalize (cutM p).2.2 = c at HC HST
      have HNS := Aside0.mk HNZ.out.1
      clear hp hpl hzz hi hg HNZ
      cases c with
      | false =>
        clear HU
        go_wp2_with (first
          | (go_at_call 25; refine (HC.out _).mono ?_; rintro e w2 ⟨rfl, n2, rfl⟩))
        go_roundg (P.length - (i + 1))
        case measure => have := HI.out; have := HG.out; omega
        case rel => exact ⟨i + 1, out, congrArg (Value.int .i64) (wrap_succ HI.out (by have := HPL.out; have := HZ.out; omega)), by have := HI.out; omega, ⟨(HE.out.below (by repeat (first | exact Below.refl _ _ | apply pw_below_drewN | apply below_drew1 | apply below_drew))).next HI.out HP.out (HST.out.trans (step_c _ _ _))⟩⟩
      | true =>
        have HN := Aside0.mk (fun W => pname n W)
        cases hn : nameB n with
        | false =>
          rw [hn] at HN
          have HV := Aside0.mk hn
          clear hn HU
          go_wp2_with (first
            | (go_at_call 25; refine (HC.out _).mono ?_; rintro e w2 ⟨rfl, n2, rfl⟩)
            | (go_at_call 26; refine (HN.out _).mono ?_; rintro e w3 ⟨rfl, n3, rfl⟩))
          go_roundg (P.length - (i + 1))
          case measure => have := HI.out; have := HG.out; omega
          case rel => exact ⟨i + 1, out, congrArg (Value.int .i64) (wrap_succ HI.out (by have := HPL.out; have := HZ.out; omega)), by have := HI.out; omega, ⟨(HE.out.below (by repeat (first | exact Below.refl _ _ | apply pw_below_drewN | apply below_drew1 | apply below_drew))).next HI.out HP.out (HST.out.trans (step_n _ _ _ _ HV.out))⟩⟩
        | true =>
          rw [hn] at HN
          have HV := Aside0.mk hn
          clear hn
          have HQ := Aside0.mk (fun W => phead v W)
          cases hq : preB 34 v with
          | false =>
            rw [hq] at HQ
            have HK := Aside0.mk hq
            clear hq HU
            have HVA := Aside0.mk (fun W => pvalue v W)
            have HW := Aside0.mk (HST.out.trans ((congrArg _ (val_q _ _ _ _ HK.out)).trans (step_v _ _ _ HV.out)))
            cases hv : valueB v with
            | false =>
              rw [hv] at HVA
              have HW2 := Aside0.mk (HW.out.trans (put_v _ _ _ hv))
              clear hv
              go_wp2_with (first
                | (go_at_call 25; refine (HC.out _).mono ?_; rintro e w2 ⟨rfl, n2, rfl⟩)
                | (go_at_call 26; refine (HN.out _).mono ?_; rintro e w3 ⟨rfl, n3, rfl⟩)
                | (go_at_call 27; refine (HQ.out _).mono ?_; rintro e w4 ⟨rfl, n4, rfl⟩)
                | (go_at_call 29; refine (HVA.out _).mono ?_; rintro e w6 ⟨rfl, n6, rfl⟩))
              go_roundg (P.length - (i + 1))
              case measure => have := HI.out; have := HG.out; omega
              case rel => exact ⟨i + 1, out, congrArg (Value.int .i64) (wrap_succ HI.out (by have := HPL.out; have := HZ.out; omega)), by have := HI.out; omega, ⟨(HE.out.below (by repeat (first | exact Below.refl _ _ | apply pw_below_drewN | apply below_drew1 | apply below_drew))).next HI.out HP.out HW2.out⟩⟩
            | true =>
              rw [hv] at HVA
              have HVT := Aside0.mk hv
              clear hv
              cases hh : hasN out n with
              | true =>
                have HIN := Aside0.mk hh
                unfold hasN at HIN
                have HW2 := Aside0.mk (HW.out.trans (put_h _ _ _ hh))
                clear hh
                go_wp2_with (first
                  | (go_at_call 25; refine (HC.out _).mono ?_; rintro e w2 ⟨rfl, n2, rfl⟩)
                  | (go_at_call 26; refine (HN.out _).mono ?_; rintro e w3 ⟨rfl, n3, rfl⟩)
                  | (go_at_call 27; refine (HQ.out _).mono ?_; rintro e w4 ⟨rfl, n4, rfl⟩)
                  | (go_at_call 29; refine (HVA.out _).mono ?_; rintro e w6 ⟨rfl, n6, rfl⟩)
                  | (at_lookup; refine gate_guard (by rfl) ?_; dsimp only
                     obtain ⟨D, ho, hs⟩ := HE.out.map
                     refine wpList_look _ rfl _ _ 40 rfl 9 4 Try.underlying9 Try.underlying40 fzero w.heap.size out.length D (out.map nameOf) rfl (fown_at ho rfl) hs n HNS.out rfl ?_; rw [HIN.out]))
                go_roundg (P.length - (i + 1))
                case measure => have := HI.out; have := HG.out; omega
                case rel => exact ⟨i + 1, out, congrArg (Value.int .i64) (wrap_succ HI.out (by have := HPL.out; have := HZ.out; omega)), by have := HI.out; omega, ⟨(HE.out.below (by repeat (first | exact Below.refl _ _ | apply pw_below_drewN | apply below_drew1 | apply below_drew))).next HI.out HP.out HW2.out⟩⟩
              | false =>
                have HIN := Aside0.mk hh
                unfold hasN at HIN
                obtain ⟨A3, c3, e3⟩ := Kd.R_slice HE.out.row
                subst e3
                by_cases hl : out.length < 20
                · have l0 : decide ((out.length : Int) < 20) = true := decide_eq_true (by omega)
                  have l1 : ((out.length : Int) < 20) = True := eq_true (by omega)
                  have HW2 := Aside0.mk (HW.out.trans (put_t _ _ _ HVT.out hh hl))
                  have HHH := Aside0.mk hh
                  have HL := Aside0.mk hl
                  clear hh hl
                  go_wp2_with (first
                    | (go_at_call 25; refine (HC.out _).mono ?_; rintro e w2 ⟨rfl, n2, rfl⟩)
                    | (go_at_call 26; refine (HN.out _).mono ?_; rintro e w3 ⟨rfl, n3, rfl⟩)
                    | (go_at_call 27; refine (HQ.out _).mono ?_; rintro e w4 ⟨rfl, n4, rfl⟩)
                    | (go_at_call 29; refine (HVA.out _).mono ?_; rintro e w6 ⟨rfl, n6, rfl⟩)
                    | (at_lookup; refine gate_guard (by rfl) ?_; dsimp only
                       obtain ⟨D, ho, hs⟩ := HE.out.map
                       refine wpList_look _ rfl _ _ 40 rfl 9 4 Try.underlying9 Try.underlying40 fzero w.heap.size out.length D (out.map nameOf) rfl (fown_at ho rfl) hs n HNS.out rfl ?_; rw [HIN.out])
                    | (at_mapUpdate
                       obtain ⟨D4, ho4, hs4⟩ := HE.out.map
                       have HLN := HL.out
                       refine wpList_add _ rfl _ _ _ 40 rfl 9 4 Try.underlying9 Try.underlying40 w.heap.size out.length D4 (out.map nameOf) rfl (fown_at ho4 rfl) (by omega) hs4 n HNS.out rfl rfl ?_
                       intro w7 D5 ho5 hs5 hg5
                       have HO5 := Aside0.mk ho5; have HS5 := Aside0.mk hs5
                       obtain ⟨hr5, hq5, hb5⟩ := HE.out.added (by repeat (first | exact Below.refl _ _ | apply pw_below_drewN | apply below_drew1 | apply below_drew)) hg5
                       have HR5 := Aside0.mk hr5; have HQ5 := Aside0.mk hq5; have HB5 := Aside0.mk hb5
                       clear ho4 hs4 HLN ho5 hs5 hg5 hr5 hq5 hb5)
                    | ((with_reducible refine gate_builtin (b := .append) (xs := #[.tmp 64, .tmp 68]) rfl ?_); at_builtin
                       refine Kd.R_append kL (w0 := w) w.heap.size rfl (.tmp 64) (.tmp 68) 22 30 (.agg #[(.string ⟨#[]⟩), (.string ⟨#[]⟩)]) 32 rfl Try.underlying22 (by kernel_rfl) rfl (by decide) (by omega) _ out (⟨n, v⟩ : SL) [.string n, .string v] (fun k => k ≠ w.heap.size) (fun _ => False) rfl (by first | (go_simp; done) | (go_simp; rfl)) ?aP (fun _ hk => hk.elim) ?aF ?aO ?aB ?aS ?aL ?_
                       (case aP => exact kL_mkM _ _ _ (⟨n, v⟩ : SL)); (case aF => exact fun k hk => by have := fown_lt HO5.out; intro he; subst he; exact absurd hk (Nat.not_le.2 this)); (case aO => exact Kd.R_below HR5.out (by repeat (first | exact Below.refl _ _ | apply pw_below_drewN | apply below_drew1 | apply below_drew))); (case aB => exact below_step HB5.out (by repeat (first | exact Below.refl _ _ | apply pw_below_drewN | apply below_drew1 | apply below_drew))); (case aS => exact below_size HB5.out); (case aL => have := HL.out; omega)
                       intro v1 w8 ho6 hb6 hg6 hat6
                       have HO6 := Aside0.mk ho6; have HB6 := Aside0.mk hb6
                       have HM6 := Aside0.mk (fown_at HO5.out (hg6.block w.heap.size (fown_lt HO5.out) (fun he => HR5.out.1 w.heap.size he.symm rfl)))
                       have HQ6 := Aside0.mk (Kd.R_over HQ5.out HR5.out (by decide) hg6)
                       clear ho6 hb6 hg6 hat6))
                  go_roundg (P.length - (i + 1))
                  case measure => have := HI.out; have := HG.out; omega
                  case rel => exact ⟨i + 1, out ++ [⟨n, v⟩], congrArg (Value.int .i64) (wrap_succ HI.out (by have := HPL.out; have := HZ.out; omega)), by have := HI.out; omega, ⟨(HE.out.put HI.out HP.out HW2.out HHH.out HL.out HO6.out HQ6.out HM6.out HS5.out HB6.out).below (by repeat (first | exact Below.refl _ _ | apply pw_below_drewN | apply below_drew1 | apply below_drew))⟩⟩
                · have l0 : decide ((out.length : Int) < 20) = false := decide_eq_false (by omega)
                  have l1 : ((out.length : Int) < 20) = False := eq_false (by omega)
                  have HW2 := Aside0.mk (HW.out.trans (put_l _ _ _ hl))
                  clear hh hl
                  go_wp2_with (first
                    | (go_at_call 25; refine (HC.out _).mono ?_; rintro e w2 ⟨rfl, n2, rfl⟩)
                    | (go_at_call 26; refine (HN.out _).mono ?_; rintro e w3 ⟨rfl, n3, rfl⟩)
                    | (go_at_call 27; refine (HQ.out _).mono ?_; rintro e w4 ⟨rfl, n4, rfl⟩)
                    | (go_at_call 29; refine (HVA.out _).mono ?_; rintro e w6 ⟨rfl, n6, rfl⟩)
                    | (at_lookup; refine gate_guard (by rfl) ?_; dsimp only
                       obtain ⟨D, ho, hs⟩ := HE.out.map
                       refine wpList_look _ rfl _ _ 40 rfl 9 4 Try.underlying9 Try.underlying40 fzero w.heap.size out.length D (out.map nameOf) rfl (fown_at ho rfl) hs n HNS.out rfl ?_; rw [HIN.out]))
                  go_roundg (P.length - (i + 1))
                  case measure => have := HI.out; have := HG.out; omega
                  case rel => exact ⟨i + 1, out, congrArg (Value.int .i64) (wrap_succ HI.out (by have := HPL.out; have := HZ.out; omega)), by have := HI.out; omega, ⟨(HE.out.below (by repeat (first | exact Below.refl _ _ | apply pw_below_drewN | apply below_drew1 | apply below_drew))).next HI.out HP.out HW2.out⟩⟩
          | true =>
            rw [hq] at HQ
            have HK := Aside0.mk hq
            clear hq
            cases k with
            | false =>
              go_wp2_with (first
                | (go_at_call 25; refine (HC.out _).mono ?_; rintro e w2 ⟨rfl, n2, rfl⟩)
                | (go_at_call 26; refine (HN.out _).mono ?_; rintro e w3 ⟨rfl, n3, rfl⟩)
                | (go_at_call 27; refine (HQ.out _).mono ?_; rintro e w4 ⟨rfl, n4, rfl⟩)
                | (go_at_call 28; refine (HU.out _).mono ?_; rintro e w5 ⟨rfl, hb5⟩; have HE5 := Aside0.mk ((HE.out.below (by repeat (first | exact Below.refl _ _ | apply pw_below_drewN | apply below_drew1 | apply below_drew))).below hb5); clear HE; have HE := HE5; clear HE5 hb5))
              go_roundg (P.length - (i + 1))
              case measure => have := HI.out; have := HG.out; omega
              case rel => exact ⟨i + 1, out, congrArg (Value.int .i64) (wrap_succ HI.out (by have := HPL.out; have := HZ.out; omega)), by have := HI.out; omega, ⟨(HE.out.below (by repeat (first | exact Below.refl _ _ | apply pw_below_drewN | apply below_drew1 | apply below_drew))).next HI.out HP.out (HST.out.trans ((congrArg _ (val_k _ _ _ HK.out)).trans (step_m _ _ _)))⟩⟩
            | true =>
              by_cases he : s.toList = ([] : List UInt8)
              · have u0 : (s.toList == ([] : List UInt8)) = true := beq_iff_eq.mpr he
                have u1 : s.toList.isEmpty = true := by rw [he]; rfl
                have HEM := Aside0.mk (show emB s = true from decide_eq_true he)
                clear he
                have HVA := Aside0.mk (fun W => pvalue t W)
                have HW := Aside0.mk (HST.out.trans ((congrArg _ (val_t _ _ _ HK.out HEM.out)).trans (step_v _ _ _ HV.out)))
                cases hv : valueB t with
                | false =>
                  rw [hv] at HVA
                  have HW2 := Aside0.mk (HW.out.trans (put_v _ _ _ hv))
                  clear hv
                  go_wp2_with (first
                    | (go_at_call 25; refine (HC.out _).mono ?_; rintro e w2 ⟨rfl, n2, rfl⟩)
                    | (go_at_call 26; refine (HN.out _).mono ?_; rintro e w3 ⟨rfl, n3, rfl⟩)
                    | (go_at_call 27; refine (HQ.out _).mono ?_; rintro e w4 ⟨rfl, n4, rfl⟩)
                    | (go_at_call 28; refine (HU.out _).mono ?_; rintro e w5 ⟨rfl, hb5⟩; have HE5 := Aside0.mk ((HE.out.below (by repeat (first | exact Below.refl _ _ | apply pw_below_drewN | apply below_drew1 | apply below_drew))).below hb5); clear HE; have HE := HE5; clear HE5 hb5)
                    | (go_at_call 29; refine (HVA.out _).mono ?_; rintro e w6 ⟨rfl, n6, rfl⟩))
                  go_roundg (P.length - (i + 1))
                  case measure => have := HI.out; have := HG.out; omega
                  case rel => exact ⟨i + 1, out, congrArg (Value.int .i64) (wrap_succ HI.out (by have := HPL.out; have := HZ.out; omega)), by have := HI.out; omega, ⟨(HE.out.below (by repeat (first | exact Below.refl _ _ | apply pw_below_drewN | apply below_drew1 | apply below_drew))).next HI.out HP.out HW2.out⟩⟩
                | true =>
                  rw [hv] at HVA
                  have HVT := Aside0.mk hv
                  clear hv
                  cases hh : hasN out n with
                  | true =>
                    have HIN := Aside0.mk hh
                    unfold hasN at HIN
                    have HW2 := Aside0.mk (HW.out.trans (put_h _ _ _ hh))
                    clear hh
                    go_wp2_with (first
                      | (go_at_call 25; refine (HC.out _).mono ?_; rintro e w2 ⟨rfl, n2, rfl⟩)
                      | (go_at_call 26; refine (HN.out _).mono ?_; rintro e w3 ⟨rfl, n3, rfl⟩)
                      | (go_at_call 27; refine (HQ.out _).mono ?_; rintro e w4 ⟨rfl, n4, rfl⟩)
                      | (go_at_call 28; refine (HU.out _).mono ?_; rintro e w5 ⟨rfl, hb5⟩; have HE5 := Aside0.mk ((HE.out.below (by repeat (first | exact Below.refl _ _ | apply pw_below_drewN | apply below_drew1 | apply below_drew))).below hb5); clear HE; have HE := HE5; clear HE5 hb5)
                      | (go_at_call 29; refine (HVA.out _).mono ?_; rintro e w6 ⟨rfl, n6, rfl⟩)
                      | (at_lookup; refine gate_guard (by rfl) ?_; dsimp only
                         obtain ⟨D, ho, hs⟩ := HE.out.map
                         refine wpList_look _ rfl _ _ 40 rfl 9 4 Try.underlying9 Try.underlying40 fzero w.heap.size out.length D (out.map nameOf) rfl (fown_at ho rfl) hs n HNS.out rfl ?_; rw [HIN.out]))
                    go_roundg (P.length - (i + 1))
                    case measure => have := HI.out; have := HG.out; omega
                    case rel => exact ⟨i + 1, out, congrArg (Value.int .i64) (wrap_succ HI.out (by have := HPL.out; have := HZ.out; omega)), by have := HI.out; omega, ⟨(HE.out.below (by repeat (first | exact Below.refl _ _ | apply pw_below_drewN | apply below_drew1 | apply below_drew))).next HI.out HP.out HW2.out⟩⟩
                  | false =>
                    have HIN := Aside0.mk hh
                    unfold hasN at HIN
                    obtain ⟨A3, c3, e3⟩ := Kd.R_slice HE.out.row
                    subst e3
                    by_cases hl : out.length < 20
                    · have l0 : decide ((out.length : Int) < 20) = true := decide_eq_true (by omega)
                      have l1 : ((out.length : Int) < 20) = True := eq_true (by omega)
                      have HW2 := Aside0.mk (HW.out.trans (put_t _ _ _ HVT.out hh hl))
                      have HHH := Aside0.mk hh
                      have HL := Aside0.mk hl
                      clear hh hl
                      go_wp2_with (first
                        | (go_at_call 25; refine (HC.out _).mono ?_; rintro e w2 ⟨rfl, n2, rfl⟩)
                        | (go_at_call 26; refine (HN.out _).mono ?_; rintro e w3 ⟨rfl, n3, rfl⟩)
                        | (go_at_call 27; refine (HQ.out _).mono ?_; rintro e w4 ⟨rfl, n4, rfl⟩)
                        | (go_at_call 28; refine (HU.out _).mono ?_; rintro e w5 ⟨rfl, hb5⟩; have HE5 := Aside0.mk ((HE.out.below (by repeat (first | exact Below.refl _ _ | apply pw_below_drewN | apply below_drew1 | apply below_drew))).below hb5); clear HE; have HE := HE5; clear HE5 hb5)
                        | (go_at_call 29; refine (HVA.out _).mono ?_; rintro e w6 ⟨rfl, n6, rfl⟩)
                        | (at_lookup; refine gate_guard (by rfl) ?_; dsimp only
                           obtain ⟨D, ho, hs⟩ := HE.out.map
                           refine wpList_look _ rfl _ _ 40 rfl 9 4 Try.underlying9 Try.underlying40 fzero w.heap.size out.length D (out.map nameOf) rfl (fown_at ho rfl) hs n HNS.out rfl ?_; rw [HIN.out])
                        | (at_mapUpdate
                           obtain ⟨D4, ho4, hs4⟩ := HE.out.map
                           have HLN := HL.out
                           refine wpList_add _ rfl _ _ _ 40 rfl 9 4 Try.underlying9 Try.underlying40 w.heap.size out.length D4 (out.map nameOf) rfl (fown_at ho4 rfl) (by omega) hs4 n HNS.out rfl rfl ?_
                           intro w7 D5 ho5 hs5 hg5
                           have HO5 := Aside0.mk ho5; have HS5 := Aside0.mk hs5
                           obtain ⟨hr5, hq5, hb5⟩ := HE.out.added (by repeat (first | exact Below.refl _ _ | apply pw_below_drewN | apply below_drew1 | apply below_drew)) hg5
                           have HR5 := Aside0.mk hr5; have HQ5 := Aside0.mk hq5; have HB5 := Aside0.mk hb5
                           clear ho4 hs4 HLN ho5 hs5 hg5 hr5 hq5 hb5)
                        | ((with_reducible refine gate_builtin (b := .append) (xs := #[.tmp 64, .tmp 68]) rfl ?_); at_builtin
                           refine Kd.R_append kL (w0 := w) w.heap.size rfl (.tmp 64) (.tmp 68) 22 30 (.agg #[(.string ⟨#[]⟩), (.string ⟨#[]⟩)]) 32 rfl Try.underlying22 (by kernel_rfl) rfl (by decide) (by omega) _ out (⟨n, t⟩ : SL) [.string n, .string t] (fun k => k ≠ w.heap.size) (fun _ => False) rfl (by first | (go_simp; done) | (go_simp; rfl)) ?aP (fun _ hk => hk.elim) ?aF ?aO ?aB ?aS ?aL ?_
                           (case aP => exact kL_mkM _ _ _ (⟨n, t⟩ : SL)); (case aF => exact fun k hk => by have := fown_lt HO5.out; intro he; subst he; exact absurd hk (Nat.not_le.2 this)); (case aO => exact Kd.R_below HR5.out (by repeat (first | exact Below.refl _ _ | apply pw_below_drewN | apply below_drew1 | apply below_drew))); (case aB => exact below_step HB5.out (by repeat (first | exact Below.refl _ _ | apply pw_below_drewN | apply below_drew1 | apply below_drew))); (case aS => exact below_size HB5.out); (case aL => have := HL.out; omega)
                           intro v1 w8 ho6 hb6 hg6 hat6
                           have HO6 := Aside0.mk ho6; have HB6 := Aside0.mk hb6
                           have HM6 := Aside0.mk (fown_at HO5.out (hg6.block w.heap.size (fown_lt HO5.out) (fun he => HR5.out.1 w.heap.size he.symm rfl)))
                           have HQ6 := Aside0.mk (Kd.R_over HQ5.out HR5.out (by decide) hg6)
                           clear ho6 hb6 hg6 hat6))
                      go_roundg (P.length - (i + 1))
                      case measure => have := HI.out; have := HG.out; omega
                      case rel => exact ⟨i + 1, out ++ [⟨n, t⟩], congrArg (Value.int .i64) (wrap_succ HI.out (by have := HPL.out; have := HZ.out; omega)), by have := HI.out; omega, ⟨(HE.out.put HI.out HP.out HW2.out HHH.out HL.out HO6.out HQ6.out HM6.out HS5.out HB6.out).below (by repeat (first | exact Below.refl _ _ | apply pw_below_drewN | apply below_drew1 | apply below_drew))⟩⟩
                    · have l0 : decide ((out.length : Int) < 20) = false := decide_eq_false (by omega)
                      have l1 : ((out.length : Int) < 20) = False := eq_false (by omega)
                      have HW2 := Aside0.mk (HW.out.trans (put_l _ _ _ hl))
                      clear hh hl
                      go_wp2_with (first
                        | (go_at_call 25; refine (HC.out _).mono ?_; rintro e w2 ⟨rfl, n2, rfl⟩)
                        | (go_at_call 26; refine (HN.out _).mono ?_; rintro e w3 ⟨rfl, n3, rfl⟩)
                        | (go_at_call 27; refine (HQ.out _).mono ?_; rintro e w4 ⟨rfl, n4, rfl⟩)
                        | (go_at_call 28; refine (HU.out _).mono ?_; rintro e w5 ⟨rfl, hb5⟩; have HE5 := Aside0.mk ((HE.out.below (by repeat (first | exact Below.refl _ _ | apply pw_below_drewN | apply below_drew1 | apply below_drew))).below hb5); clear HE; have HE := HE5; clear HE5 hb5)
                        | (go_at_call 29; refine (HVA.out _).mono ?_; rintro e w6 ⟨rfl, n6, rfl⟩)
                        | (at_lookup; refine gate_guard (by rfl) ?_; dsimp only
                           obtain ⟨D, ho, hs⟩ := HE.out.map
                           refine wpList_look _ rfl _ _ 40 rfl 9 4 Try.underlying9 Try.underlying40 fzero w.heap.size out.length D (out.map nameOf) rfl (fown_at ho rfl) hs n HNS.out rfl ?_; rw [HIN.out]))
                      go_roundg (P.length - (i + 1))
                      case measure => have := HI.out; have := HG.out; omega
                      case rel => exact ⟨i + 1, out, congrArg (Value.int .i64) (wrap_succ HI.out (by have := HPL.out; have := HZ.out; omega)), by have := HI.out; omega, ⟨(HE.out.below (by repeat (first | exact Below.refl _ _ | apply pw_below_drewN | apply below_drew1 | apply below_drew))).next HI.out HP.out HW2.out⟩⟩
              · have u0 : (s.toList == ([] : List UInt8)) = false := beq_eq_false_iff_ne.mpr he
                have u1 : s.toList.isEmpty = false := by cases h : s.toList with | nil => exact absurd h he | cons _ _ => rfl
                have HEM := Aside0.mk (show emB s = false from decide_eq_false he)
                clear he
                go_wp2_with (first
                  | (go_at_call 25; refine (HC.out _).mono ?_; rintro e w2 ⟨rfl, n2, rfl⟩)
                  | (go_at_call 26; refine (HN.out _).mono ?_; rintro e w3 ⟨rfl, n3, rfl⟩)
                  | (go_at_call 27; refine (HQ.out _).mono ?_; rintro e w4 ⟨rfl, n4, rfl⟩)
                  | (go_at_call 28; refine (HU.out _).mono ?_; rintro e w5 ⟨rfl, hb5⟩; have HE5 := Aside0.mk ((HE.out.below (by repeat (first | exact Below.refl _ _ | apply pw_below_drewN | apply below_drew1 | apply below_drew))).below hb5); clear HE; have HE := HE5; clear HE5 hb5))
                go_roundg (P.length - (i + 1))
                case measure => have := HI.out; have := HG.out; omega
                case rel => exact ⟨i + 1, out, congrArg (Value.int .i64) (wrap_succ HI.out (by have := HPL.out; have := HZ.out; omega)), by have := HI.out; omega, ⟨(HE.out.below (by repeat (first | exact Below.refl _ _ | apply pw_below_drewN | apply below_drew1 | apply below_drew))).next HI.out HP.out (HST.out.trans ((congrArg _ (val_r _ _ _ _ HK.out HEM.out)).trans (step_m _ _ _)))⟩⟩
    · have hiz : ¬ (i : Int) < (P.length : Int) := by omega
      have hdn := HE.out.done hi
      have HSO := Aside0.mk (Kd.R_mono (ok' := fun _ => True) HE.out.row (fun _ _ => trivial))
      have HSL := Aside0.mk (fun W hb => sort_of (w0 := w) (w := W) (Kd.R_below HSO.out hb) (below_step HE.out.low hb) (by have := HE.out.few; omega))
      have HND := Aside0.mk HE.out.nodup
      have HRV := Aside0.mk (show sortM out = r by rw [hdn]; exact HR.out)
      clear hi hg hdn
      go_wp2_with (go_at_call 30; refine (HSL.out _ (by repeat (first | exact Below.refl _ _ | apply pw_below_drewN | apply below_drew1 | apply below_drew))).mono ?_; rintro e w9 ⟨rfl, out', hp, hs, hr9, hb9⟩)
      go_ret
      have e := (sorted_eq HND.out hp (hs.imp (fun h => Int.not_lt.2 h))).trans HRV.out
      exact ⟨_, rfl, by rw [← e]; exact Kd.R_below hr9 (by repeat (first | exact Below.refl _ _ | apply pw_below_drewN | apply below_drew1 | apply below_drew)), below_step hb9 (by repeat (first | exact Below.refl _ _ | apply pw_below_drewN | apply below_drew1 | apply below_drew))⟩
end Go.Proofs.Ytgdekdcbfnghoaa.PFnExactPairsOf
