/- The walk of formOf: the map of the names seen, the holes appended to a row of the call's own. -/
import Derived.Test.YtpnldoegchjmmaaForm
import Derived.Test.YtpnldoegchjmmaaSet
namespace Go.Proofs.Ytpnldoegchjmmaa.PFnExactPartsOf
attribute [local go_sem] Go.Proofs.Ytpnldoegchjmmaa.Cmp.str_gtr Go.Proofs.Ytpnldoegchjmmaa.Cmp.str_geq Go.Proofs.Ytpnldoegchjmmaa.Cmp.str_leq
open Go.RowKit Go.Maps Go.Proofs.YtpnldoegchjmmaaW.PrintWords Go.Proofs.YtpnldoegchjmmaaW.PrintLast Go.Proofs.YtpnldoegchjmmaaW.PrintMore Go.Proofs.Ytpnldoegchjmmaa.Evs Go.Proofs.Ytpnldoegchjmmaa.AFnExactPartsOf Go.Proofs.Ytpnldoegchjmmaa.PrtFnExactPartsOf Go.Proofs.Ytpnldoegchjmmaa.Form Go.Proofs.Ytpnldoegchjmmaa.TxtSet
set_option linter.unusedVariables false
set_option linter.unusedSimpArgs false
theorem fown_at {w w' : World} {P : Program} {k : TypeId} {R : Value → Option (DataW Unit × List MemPlace)} {b n : Nat} {D : DataW Unit} (h : w.ownsMap P k R b n D) (e : w'.heap[b]? = w.heap[b]?) : w'.ownsMap P k R b n D := by
  obtain ⟨es, c, h1, h2⟩ := h
  exact ⟨es, c, e.trans h1, h2⟩
theorem fown_lt {w : World} {P : Program} {k : TypeId} {R : Value → Option (DataW Unit × List MemPlace)} {b n : Nat} {D : DataW Unit} (h : w.ownsMap P k R b n D) : b < w.heap.size := by
  obtain ⟨es, c, h1, _⟩ := h
  exact (Array.getElem?_eq_some_iff.1 h1).1
theorem fzero (w : World) : (zeroValue 4).run Try.prog w = .ok (.bool false) w := by kernel_rfl
/-- The callees' answers, with rounds enough for each. -/
theorem fprinted (p : ByteArray) (w : World) : Calls Try.prog 13 #[.string p, .int .i64 100] w fun e w' => e = .returned (.bool (decide ((p.size : Int) ≤ 100) && printedB p)) ∧ Drawn0 w w' := by
  obtain ⟨k, hk⟩ := EvP.rounds (implPrinted_ev p 100 (by omega))
  exact impl_printed.calls k p 100 _ w hk
theorem fword (q : ByteArray) (hq : q.size ≤ 1048576) (w : World) : Calls Try.prog 24 #[.string q] w fun e w' => e = .returned (.tuple #[.string (wordM q).1, .string (wordM q).2]) ∧ Drawn0 w w' := by
  obtain ⟨k, hk⟩ := EvP.rounds (wordOf_ev q hq)
  exact impl_wordOf.calls k q _ _ w hk
theorem fname (q : ByteArray) (w : World) : Calls Try.prog 25 #[.string q] w fun e w' => e = .returned (.bool (nameB q)) ∧ Drawn0 w w' := by
  obtain ⟨k, hk⟩ := EvP.rounds (impl_isName_ev q)
  exact impl_isName.calls k q _ w hk
theorem fgt (q : ByteArray) (w : World) : Calls Try.prog 26 #[.string q, .string ⟨#[62]⟩] w fun e w' => e = .returned (.bool (gtB q)) ∧ Drawn0 w w' := strings_HasPrefix.calls q ⟨#[62]⟩ _ w (hasPrefix_ev q)
/-- What the loop keeps. -/
structure FormAt (w wr : World) (b : Nat) (v4 : Value) (p : ByteArray) (x : Nat) (t : ByteArray) (out : List SHl) (r : List SHl × Bool) : Prop where
  row : Kd.R kHl 49 wr w.heap.size (fun k => k ≠ b) v4 out
  map : ∃ D, wr.ownsMap Try.prog 9 RB b out.length D ∧ SetOk D (out.map (fun h => h.f1.data.toList))
  low : Below w.heap.size w wr
  ge : w.heap.size ≤ b
  le : x ≤ p.size
  few : out.length ≤ x
  short : t.size ≤ x
  val : ∃ n, p.size + 1 ≤ n + x ∧ formL p n x t out = r
theorem FormAt.below {w wr w' : World} {b : Nat} {v4 : Value} {p : ByteArray} {x : Nat} {t : ByteArray} {out : List SHl} {r : List SHl × Bool} (h : FormAt w wr b v4 p x t out r) (hb : Below wr.heap.size wr w') : FormAt w w' b v4 p x t out r := by
  obtain ⟨D, h1, h2⟩ := h.map
  exact ⟨Kd.R_below h.row hb, ⟨D, fown_at h1 (hb.block _ (fown_lt h1)), h2⟩, below_step h.low hb, h.ge, h.le, h.few, h.short, h.val⟩
def fq (p : ByteArray) (x : Nat) : ByteArray := p.extract (((x : Int) + 1)).toNat p.size
def fok (p : ByteArray) (x : Nat) : Bool := nameB (wordM (fq p x)).1 && gtB (wordM (fq p x)).2
def fdup (p : ByteArray) (x : Nat) (t : ByteArray) (out : List SHl) : Bool := decide ((wordM (fq p x)).1.data.toList ∈ out.map (fun h => h.f1.data.toList)) || (decide (t.toList = []) && decide (0 < out.length))
theorem formL_step (p : ByteArray) (N x : Nat) (t : ByteArray) (out : List SHl) (hx : x < p.size) : formL p (N + 1) x t out = (if bt p x = 60 ∧ fok p x = true then (if fdup p x t out = true then ([], false) else formL p N ((x + ((wordM (fq p x)).1.size + 1) + 1 : Nat) : Int) ⟨#[]⟩ (out ++ [⟨t, (wordM (fq p x)).1⟩])) else formL p N ((x + 1 : Nat) : Int) (t ++ p.extract (x : Int).toNat ((x : Int) + 1).toNat) out) := by
  conv => lhs; unfold formL
  unfold fok fdup fq
  rw [if_pos (by omega)]
  generalize wordM (p.extract ((x : Int) + 1).toNat p.size) = nm
  have e1 : ((x + (nm.1.size + 1) + 1 : Nat) : Int) = (x : Int) + ((nm.1.size : Int) + 1) + 1 := by omega
  have e2 : ((x + 1 : Nat) : Int) = (x : Int) + 1 := by omega
  rw [e1, e2]
  by_cases h1 : bt p x = 60
  · rw [if_pos h1]
    by_cases h2 : (nameB nm.1 && gtB nm.2) = true
    · rw [if_pos h2, if_pos (⟨h1, h2⟩ : bt p x = 60 ∧ (nameB nm.1 && gtB nm.2) = true)]
    · rw [if_neg h2, if_neg (fun h => h2 h.2)]
  · rw [if_neg h1, if_neg (fun h => h1 h.1)]
theorem ext_size (p : ByteArray) (a b : Nat) : (p.extract a b).size = min b p.size - a := by simp
theorem wordM_size (q : ByteArray) : (wordM q).1.size + (wordM q).2.size = q.size := by
  have := wEnd_le q
  unfold wordM
  simp only [ext_size]
  omega
theorem fok_room {p : ByteArray} {x : Nat} (hx : x < p.size) (h : fok p x = true) : x + ((wordM (fq p x)).1.size + 1) + 1 ≤ p.size := by
  unfold fok gtB at h
  simp only [Bool.and_eq_true, decide_eq_true_eq] at h
  have h1 := wordM_size (fq p x)
  have h2 : (fq p x).size = p.size - (x + 1) := by unfold fq; rw [ext_size]; omega
  omega
theorem FormAt.char {w wr : World} {b : Nat} {v4 : Value} {p : ByteArray} {x : Nat} {t : ByteArray} {out : List SHl} {r : List SHl × Bool} (h : FormAt w wr b v4 p x t out r) (hx : x < p.size) (hn : ¬ (bt p x = 60 ∧ fok p x = true)) : FormAt w wr b v4 p (x + 1) (t ++ p.extract (x : Int).toNat ((x : Int) + 1).toNat) out r := by
  obtain ⟨N, hN, hr⟩ := h.val
  obtain ⟨M, rfl⟩ : ∃ M, N = M + 1 := ⟨N - 1, by omega⟩
  rw [formL_step p M x t out hx, if_neg hn] at hr
  refine ⟨h.row, h.map, h.low, h.ge, hx, by have := h.few; omega, ?_, M, by omega, hr⟩
  have := h.short
  rw [ByteArray.size_append, ext_size]
  omega
theorem FormAt.dup {w wr : World} {b : Nat} {v4 : Value} {p : ByteArray} {x : Nat} {t : ByteArray} {out : List SHl} {r : List SHl × Bool} (h : FormAt w wr b v4 p x t out r) (hx : x < p.size) (hn : bt p x = 60 ∧ fok p x = true) (hd : fdup p x t out = true) : r = ([], false) := by
  obtain ⟨N, hN, hr⟩ := h.val
  obtain ⟨M, rfl⟩ : ∃ M, N = M + 1 := ⟨N - 1, by omega⟩
  rw [formL_step p M x t out hx, if_pos hn, if_pos hd] at hr
  exact hr.symm
theorem FormAt.put {w wr w1 : World} {b : Nat} {v4 v1 : Value} {p : ByteArray} {x : Nat} {t : ByteArray} {out : List SHl} {r : List SHl × Bool} (h : FormAt w wr b v4 p x t out r) (hx : x < p.size) (hn : bt p x = 60 ∧ fok p x = true) (hd : fdup p x t out = false)
    (h1 : Kd.R kHl 49 w1 w.heap.size (fun k => k ≠ b) v1 (out ++ [⟨t, (wordM (fq p x)).1⟩])) {D : DataW Unit} (h2 : w1.ownsMap Try.prog 9 RB b (out.length + 1) D) (h3 : SetOk D (out.map (fun h => h.f1.data.toList) ++ [(wordM (fq p x)).1.data.toList])) (h4 : Below w.heap.size w w1) :
    FormAt w w1 b v1 p (x + ((wordM (fq p x)).1.size + 1) + 1) ⟨#[]⟩ (out ++ [⟨t, (wordM (fq p x)).1⟩]) r := by
  obtain ⟨N, hN, hr⟩ := h.val
  obtain ⟨M, rfl⟩ : ∃ M, N = M + 1 := ⟨N - 1, by omega⟩
  rw [formL_step p M x t out hx, if_pos hn, if_neg (by rw [hd]; decide)] at hr
  have hf := h.few
  refine ⟨h1, ⟨D, by rw [List.length_append]; exact h2, by rw [List.map_append]; exact h3⟩, h4, h.ge, fok_room hx hn.2, by rw [List.length_append]; show out.length + 1 ≤ _; omega, Nat.zero_le _, M, by omega, hr⟩
theorem FormAt.done {w wr : World} {b : Nat} {v4 : Value} {p : ByteArray} {x : Nat} {t : ByteArray} {out : List SHl} {r : List SHl × Bool} (h : FormAt w wr b v4 p x t out r) (hx : ¬ x < p.size) : r = (out ++ [⟨t, ⟨#[]⟩⟩], decide (0 < out.length)) := by
  obtain ⟨N, hN, hr⟩ := h.val
  have := h.le
  obtain ⟨M, rfl⟩ : ∃ M, N = M + 1 := ⟨N - 1, by omega⟩
  unfold formL at hr
  rw [if_neg (by omega)] at hr
  exact hr.symm
/-! ### The walk (written by formgen.py) -/
theorem fprinted' (p : ByteArray) (w : World) (b : Bool) (h : (decide (p.size ≤ 100) && printedB p) = b) : Calls Try.prog 13 #[.string p, .int .i64 100] w fun e w' => e = .returned (.bool b) ∧ Drawn0 w w' := by
  have h1 := fprinted p w
  have e : (decide ((p.size : Int) ≤ 100) && printedB p) = b := by rw [← h]; congr 1; exact decide_eq_decide.2 (by omega)
  rw [e] at h1
  exact h1
theorem FormAt.added {w wr w4 w5 : World} {b : Nat} {v4 : Value} {p : ByteArray} {x : Nat} {t : ByteArray} {out : List SHl} {r : List SHl × Bool} (h : FormAt w wr b v4 p x t out r) (hb : Below wr.heap.size wr w4) (hg : w4.grownBy w5 (some b)) : Kd.R kHl 49 w5 w.heap.size (fun k => k ≠ b) v4 out ∧ Below w.heap.size w w5 := by
  have h4 := h.below hb
  refine ⟨Kd.R_step h4.row (fun k hk hlt => hg.block k hlt (fun he => hk (by injection he))), h4.low.grown hg (below_size h4.low) (fun k hk => ?_)⟩
  have e : b = k := by injection hk
  rw [← e]
  exact h4.ge
theorem put_nums (x n : Nat) (z : Int) (hz : z = (x : Int)) (h : x + (n + 1) + 1 ≤ 100) : ∃ g1 g2 g3 : Int, IntKind.i64.wrap ((n : Int) + 1) = g1 ∧ wrap64 ((n : Int) + 1) = g1 ∧ IntKind.i64.wrap (z + g1) = g2 ∧ wrap64 (z + g1) = g2 ∧ IntKind.i64.wrap (g2 + 1) = g3 ∧ wrap64 (g2 + 1) = g3 ∧ g3 = ((x + (n + 1) + 1 : Nat) : Int) := by
  have e1 : wrap64 ((n : Int) + 1) = (n : Int) + 1 := by unfold wrap64; omega
  have e2 : wrap64 (z + ((n : Int) + 1)) = z + ((n : Int) + 1) := by unfold wrap64; omega
  have e3 : wrap64 (z + ((n : Int) + 1) + 1) = z + ((n : Int) + 1) + 1 := by unfold wrap64; omega
  exact ⟨_, _, _, (i64_w _).trans e1, e1, (i64_w _).trans e2, e2, (i64_w _).trans e3, e3, by omega⟩
set_option maxHeartbeats 8000000 in
set_option maxRecDepth 100000 in
theorem impl_formOf.calls (p : ByteArray) (w : World) : Calls Try.prog 12 #[.string p] w fun e w' => ∃ v0_ : Value, e = .returned (.tuple #[v0_, .bool (formM p).2]) ∧ Kd.R kHl 49 w' w.heap.size (fun _ => True) v0_ (formM p).1 ∧ Below w.heap.size w w' := by
  by_cases h0 : p.toList = ([] : List UInt8)
  · have e : formM p = ([], false) := by unfold formM; rw [decide_eq_true h0]; rfl
    rw [e]
    have c0 : (p.toList == ([] : List UInt8)) = true := beq_iff_eq.mpr h0
    have c1 : p.toList.isEmpty = true := by rw [h0]; rfl
    clear h0 e
    go_enter Try.func12, Try.ntmps12
    go_wp2
    go_ret2
    exact ⟨_, rfl, Kd.R_nil _ _ _ _ _, by repeat (first | exact Below.refl _ _ | apply pw_below_drewN | apply below_drew1 | apply below_drew)⟩
  have c0 : (p.toList == ([] : List UInt8)) = false := beq_eq_false_iff_ne.mpr h0
  have c1 : p.toList.isEmpty = false := by cases h : p.toList with | nil => exact absurd h h0 | cons _ _ => rfl
  have C0 := Aside0.mk h0
  clear h0
  cases h1 : (decide (p.size ≤ 100) && printedB p) with
  | false =>
    have e : formM p = ([], false) := by unfold formM; rw [h1, decide_eq_false C0.out]; rfl
    rw [e]
    have HP := Aside0.mk (fun W => fprinted' p W false h1)
    clear h1 e C0
    go_enter Try.func12, Try.ntmps12
    go_wp2_with (first
      | (go_at_call 13; refine (HP.out _).mono ?_; rintro e w2 ⟨rfl, n2, rfl⟩))
    go_ret2
    exact ⟨_, rfl, Kd.R_nil _ _ _ _ _, by repeat (first | exact Below.refl _ _ | apply pw_below_drewN | apply below_drew1 | apply below_drew)⟩
  | true =>
    have e : formM p = formL p (p.size + 1) 0 ⟨#[]⟩ [] := by unfold formM; rw [h1, decide_eq_false C0.out]; rfl
    have HSZ := Aside0.mk (show p.size ≤ 100 by simp only [Bool.and_eq_true, decide_eq_true_eq] at h1; exact h1.1)
    obtain ⟨r, hr⟩ : ∃ r, r = formM p := ⟨_, rfl⟩
    rw [← hr]
    have HRV := Aside0.mk (hr.trans e).symm
    have HP := Aside0.mk (fun W => fprinted' p W true h1)
    clear h1 e C0 hr
    have hmm := @run_makeMap Try.prog
    go_enter Try.func12, Try.ntmps12
    go_wp2_with (first
      | (go_at_call 13; refine (HP.out _).mono ?_; rintro e w2 ⟨rfl, n2, rfl⟩))
    go_loopg [4, 5, 7] p.size (fun gg v4 v5 v7 wr => ∃ (x : Nat) (t : ByteArray) (out : List SHl), v5 = .string t ∧ v7 = .int .i64 (x : Int) ∧ p.size - x ≤ gg ∧ Aside0 (FormAt w wr w.heap.size v4 p x t out r))
    case atStart => exact ⟨0, ⟨#[]⟩, [], rfl, rfl, by omega, ⟨⟨Kd.R_nil _ _ _ _ _, ⟨_, World.ownsMap_made _ _ _ _, SetOk.nil⟩, below_alloc (by repeat (first | exact Below.refl _ _ | apply pw_below_drewN | apply below_drew1 | apply below_drew)) _, Nat.le_refl _, Nat.zero_le _, Nat.zero_le _, Nat.zero_le _, p.size + 1, by omega, HRV.out⟩⟩⟩
    case round =>
      clear HRV HP c0 c1 hmm
      obtain ⟨x, t, out, rfl, rfl, hg, HE⟩ := hrel
      by_cases hx : x < p.size
      · skip
        have hz0 : ∃ z : Int, z = (x : Int) := ⟨_, rfl⟩
        obtain ⟨z, hz⟩ := hz0
        have p6 : (0 ≤ z) = True := eq_true (by omega)
        have q6 : (z < (p.size : Int)) = True := eq_true (by omega)
        have q6b : decide (z < (p.size : Int)) = true := decide_eq_true (by omega)
        have hx6 := bt_at p z
        obtain ⟨y, hy⟩ : ∃ y : Int, y = z + 1 := ⟨_, rfl⟩
        have y0 : (0 ≤ y) = True := eq_true (by omega)
        have y1 : (y ≤ (p.size : Int)) = True := eq_true (by omega)
        have y2 : (z ≤ y) = True := eq_true (by omega)
        have hwy : IntKind.i64.wrap (z + 1) = y := by rw [i64_w]; have := HSZ.out; unfold wrap64; omega
        have hwy' : wrap64 (z + 1) = y := by have := HSZ.out; unfold wrap64; omega
        have HZ := Aside0.mk hz
        have HY := Aside0.mk hy
        have HX := Aside0.mk hx
        have HM := Aside0.mk hg
        rw [← hz]
        have HBT := Aside0.mk (show bt p z = bt p (x : Int) by rw [hz])
        have HQE := Aside0.mk (show p.extract (y : Int).toNat p.size = fq p x by unfold fq; rw [hy, hz])
        have HTE := Aside0.mk (show p.extract (z : Int).toNat (y : Int).toNat = p.extract (x : Int).toNat ((x : Int) + 1).toNat by rw [hy, hz])
        have t0 : t.size + (p.extract (z : Int).toNat (y : Int).toNat).size ≤ 9223372036854775807 := by have := HE.out.short; have := HSZ.out; rw [ext_size]; omega
        have t1 := eq_true t0
        have t2 : decide (t.size + (p.extract (z : Int).toNat (y : Int).toNat).size ≤ 9223372036854775807) = true := decide_eq_true t0
        have t4 : (9223372036854775807 < t.size + (y.toNat - z.toNat)) = False := eq_false (by have := HE.out.short; have := HSZ.out; omega)
        have t3 : (9223372036854775807 < t.size + (p.extract (z : Int).toNat (y : Int).toNat).size) = False := eq_false (Nat.not_lt.2 t0)
        clear t0 hz hy hx hg
        have CHAR := fun h => Aside0.mk (HE.out.char HX.out h)
        by_cases h60 : bt p z = 60
        · have h60b : (bt p z == 60) = true := beq_iff_eq.mpr h60
          have H60 := Aside0.mk h60
          clear h60
          have HW := Aside0.mk (fun W => fword (p.extract (y : Int).toNat p.size) (by have := HSZ.out; rw [ext_size]; omega) W)
          have HOK := Aside0.mk (show fok p x = (nameB (wordM (p.extract (y : Int).toNat p.size)).1 && gtB (wordM (p.extract (y : Int).toNat p.size)).2) by rw [HQE.out]; rfl)
          have HNE := Aside0.mk (show (wordM (p.extract (y : Int).toNat p.size)).1 = (wordM (fq p x)).1 by rw [HQE.out])
          generalize (wordM (p.extract (y : Int).toNat p.size)).1 = n at HW HOK HNE
          generalize (wordM (p.extract (y : Int).toNat p.size)).2 = m at HW HOK
          cases hn : nameB n with
          | false =>
            have HN := Aside0.mk (fun W => fname n W)
            rw [hn] at HN
            have HC := CHAR (fun h => by have h1 := h.2; rw [HOK.out, hn] at h1; exact absurd h1 (by simp))
            clear CHAR hn
            go_upto_region 18 with (first | (go_at_call 24; refine (HW.out _).mono ?_; rintro e w2 ⟨rfl, n2, rfl⟩) | (go_at_call 25; refine (HN.out _).mono ?_; rintro e w3 ⟨rfl, n3, rfl⟩))
            go_wp2
            go_roundg (p.size - (x + 1))
            case measure => have := HM.out; have := HX.out; omega
            case rel => exact ⟨x + 1, _, out, rfl, by rw [HY.out, HZ.out]; rfl, by omega, ⟨by rw [HTE.out]; exact HC.out.below (by repeat (first | exact Below.refl _ _ | apply pw_below_drewN | apply below_drew1 | apply below_drew))⟩⟩
          | true =>
            have HN := Aside0.mk (fun W => fname n W)
            rw [hn] at HN
            cases hm : gtB m with
            | false =>
              have HG := Aside0.mk (fun W => fgt m W)
              rw [hm] at HG
              have HC := CHAR (fun h => by have h1 := h.2; rw [HOK.out, hm] at h1; exact absurd h1 (by simp))
              clear CHAR hn hm
              go_upto_region 18 with (first | (go_at_call 24; refine (HW.out _).mono ?_; rintro e w2 ⟨rfl, n2, rfl⟩) | (go_at_call 25; refine (HN.out _).mono ?_; rintro e w3 ⟨rfl, n3, rfl⟩) | (go_at_call 26; refine (HG.out _).mono ?_; rintro e w4 ⟨rfl, n4, rfl⟩))
              go_wp2
              go_roundg (p.size - (x + 1))
              case measure => have := HM.out; have := HX.out; omega
              case rel => exact ⟨x + 1, _, out, rfl, by rw [HY.out, HZ.out]; rfl, by omega, ⟨by rw [HTE.out]; exact HC.out.below (by repeat (first | exact Below.refl _ _ | apply pw_below_drewN | apply below_drew1 | apply below_drew))⟩⟩
            | true =>
              have HG := Aside0.mk (fun W => fgt m W)
              rw [hm] at HG
              have HOK' := Aside0.mk (show bt p (x : Int) = 60 ∧ fok p x = true from ⟨HBT.out.symm.trans H60.out, by rw [HOK.out, hn, hm]; rfl⟩)
              clear CHAR hn hm HOK
              have HNS := Aside0.mk (show n.size ≤ 1000000 by have h1 := fok_room HX.out HOK'.out.2; rw [← HNE.out] at h1; have := HSZ.out; omega)
              obtain ⟨D, ho, hs⟩ := HE.out.map
              have HO := Aside0.mk ho
              have HS := Aside0.mk hs
              clear ho hs
              cases hin : decide (n.data.toList ∈ out.map (fun h => h.f1.data.toList)) with
              | true =>
                have HIN := Aside0.mk hin
                have HV := Aside0.mk (HE.out.dup HX.out HOK'.out (by unfold fdup; rw [← HNE.out, hin]; rfl))
                clear hin
                go_wp2_with (first
                  | (go_at_call 24; refine (HW.out _).mono ?_; rintro e w2 ⟨rfl, n2, rfl⟩)
                  | (go_at_call 25; refine (HN.out _).mono ?_; rintro e w3 ⟨rfl, n3, rfl⟩)
                  | (go_at_call 26; refine (HG.out _).mono ?_; rintro e w4 ⟨rfl, n4, rfl⟩)
                  | (at_lookup; refine wpList_look _ rfl _ _ 45 rfl 9 4 Try.underlying9 Try.underlying45 fzero w.heap.size out.length D (out.map (fun h => h.f1.data.toList)) rfl (fown_at HO.out rfl) HS.out n HNS.out rfl ?_; rw [HIN.out]))
                go_ret2
                rw [HV.out]
                exact ⟨_, rfl, Kd.R_nil _ _ _ _ _, (HE.out.below (by repeat (first | exact Below.refl _ _ | apply pw_below_drewN | apply below_drew1 | apply below_drew))).low⟩
              | false =>
                have HIN := Aside0.mk hin
                obtain ⟨A4, c4, e4⟩ := Kd.R_slice HE.out.row
                subst e4
                by_cases ht : t.toList = ([] : List UInt8)
                · have u0 : (t.toList == ([] : List UInt8)) = true := beq_iff_eq.mpr ht
                  have u1 : t.toList.isEmpty = true := by rw [ht]; rfl
                  by_cases hl : 0 < out.length
                  · have l0 : decide (0 < out.length) = true := decide_eq_true hl
                    have l1 : decide (0 < (out.length : Int)) = true := decide_eq_true (by omega)
                    have HV := Aside0.mk (HE.out.dup HX.out HOK'.out (by unfold fdup; rw [decide_eq_true ht, decide_eq_true hl]; simp))
                    clear hin ht hl
                    go_wp2_with (first
                      | (go_at_call 24; refine (HW.out _).mono ?_; rintro e w2 ⟨rfl, n2, rfl⟩)
                      | (go_at_call 25; refine (HN.out _).mono ?_; rintro e w3 ⟨rfl, n3, rfl⟩)
                      | (go_at_call 26; refine (HG.out _).mono ?_; rintro e w4 ⟨rfl, n4, rfl⟩)
                      | (at_lookup; refine wpList_look _ rfl _ _ 45 rfl 9 4 Try.underlying9 Try.underlying45 fzero w.heap.size out.length D (out.map (fun h => h.f1.data.toList)) rfl (fown_at HO.out rfl) HS.out n HNS.out rfl ?_; rw [HIN.out]))
                    go_ret2
                    rw [HV.out]
                    exact ⟨_, rfl, Kd.R_nil _ _ _ _ _, (HE.out.below (by repeat (first | exact Below.refl _ _ | apply pw_below_drewN | apply below_drew1 | apply below_drew))).low⟩
                  · have l0 : decide (0 < out.length) = false := decide_eq_false hl
                    have l1 : decide (0 < (out.length : Int)) = false := decide_eq_false (by omega)
                    have hd : fdup p x t out = false := by unfold fdup; rw [← HNE.out, hin, decide_eq_false hl]; simp
                    clear hin ht hl
                    have HD := Aside0.mk hd
                    have HNZ := Aside0.mk (fok_room HX.out HOK'.out.2)
                    have HLN := Aside0.mk HE.out.few
                    rw [← HNE.out] at HNZ
                    obtain ⟨g1, g2, g3, k1, j1, k2, j2, k3, j3, hg3⟩ := put_nums x n.size z HZ.out (Nat.le_trans HNZ.out HSZ.out)
                    have HG3 := Aside0.mk hg3
                    clear hg3 hd
                    go_wp2_with (first
                      | (go_at_call 24; refine (HW.out _).mono ?_; rintro e w2 ⟨rfl, n2, rfl⟩)
                      | (go_at_call 25; refine (HN.out _).mono ?_; rintro e w3 ⟨rfl, n3, rfl⟩)
                      | (go_at_call 26; refine (HG.out _).mono ?_; rintro e w4 ⟨rfl, n4, rfl⟩)
                      | (at_lookup; refine wpList_look _ rfl _ _ 45 rfl 9 4 Try.underlying9 Try.underlying45 fzero w.heap.size out.length D (out.map (fun h => h.f1.data.toList)) rfl (fown_at HO.out rfl) HS.out n HNS.out rfl ?_; rw [HIN.out])
                      | (at_mapUpdate; refine wpList_add _ rfl _ _ _ 45 rfl 9 4 Try.underlying9 Try.underlying45 w.heap.size out.length D (out.map (fun h => h.f1.data.toList)) rfl (fown_at HO.out rfl) (by have := HLN.out; have := HSZ.out; have := HX.out; omega) HS.out n HNS.out rfl rfl ?_
                         intro w5 D5 ho5 hs5 hg5
                         have HO5 := Aside0.mk ho5; have HS5 := Aside0.mk hs5
                         obtain ⟨hr5, hb5⟩ := HE.out.added (by repeat (first | exact Below.refl _ _ | apply pw_below_drewN | apply below_drew1 | apply below_drew)) hg5
                         have HR5 := Aside0.mk hr5; have HB5 := Aside0.mk hb5
                         clear ho5 hs5 hg5 hr5 hb5)
                      | ((with_reducible refine gate_builtin (b := .append) (xs := #[.tmp 56, .tmp 60]) rfl ?_); at_builtin
                         refine Kd.R_append kHl (w0 := w) w.heap.size rfl (.tmp 56) (.tmp 60) 33 49 (.agg #[(.string ⟨#[]⟩), (.string ⟨#[]⟩)]) 32 rfl Try.underlying33 (by kernel_rfl) rfl (by decide) (by omega) _ out (⟨t, n⟩ : SHl) [.string t, .string n] (fun k => k ≠ w.heap.size) (fun _ => False) rfl (by first | (go_simp; done) | (go_simp; rfl)) ?aP (fun _ hk => hk.elim) ?aF ?aO ?aB ?aS ?aL ?_
                         (case aP => exact kHl_mkM _ _ _ (⟨t, n⟩ : SHl)); (case aF => exact fun k hk => by have := fown_lt HO5.out; intro he; subst he; exact absurd hk (Nat.not_le.2 this)); (case aO => exact Kd.R_below HR5.out (by repeat (first | exact Below.refl _ _ | apply pw_below_drewN | apply below_drew1 | apply below_drew))); (case aB => exact below_step HB5.out (by repeat (first | exact Below.refl _ _ | apply pw_below_drewN | apply below_drew1 | apply below_drew))); (case aS => exact below_size HB5.out); (case aL => have := HLN.out; have := HSZ.out; have := HX.out; omega)
                         intro v1 w6 ho6 hb6 hg6 hat6
                         have HO6 := Aside0.mk ho6; have HB6 := Aside0.mk hb6
                         have HM6 := Aside0.mk (fown_at HO5.out (hg6.block w.heap.size (fown_lt HO5.out) (fun he => HR5.out.1 w.heap.size he.symm rfl)))
                         clear ho6 hb6 hg6 hat6))
                    go_roundg (p.size - (x + (n.size + 1) + 1))
                    case measure => have := HM.out; have := HX.out; omega
                    case rel => exact ⟨x + (n.size + 1) + 1, ⟨#[]⟩, out ++ [⟨t, n⟩], rfl, by rw [HG3.out], by omega, ⟨by have h1 := HE.out.put HX.out HOK'.out HD.out (by rw [← HNE.out]; exact HO6.out) HM6.out (by rw [← HNE.out]; exact HS5.out) HB6.out; rw [← HNE.out] at h1; exact h1.below (by repeat (first | exact Below.refl _ _ | apply pw_below_drewN | apply below_drew1 | apply below_drew))⟩⟩
                · have u0 : (t.toList == ([] : List UInt8)) = false := beq_eq_false_iff_ne.mpr ht
                  have u1 : t.toList.isEmpty = false := by cases h : t.toList with | nil => exact absurd h ht | cons _ _ => rfl
                  have hd : fdup p x t out = false := by unfold fdup; rw [← HNE.out, hin, decide_eq_false ht]; simp
                  clear hin ht
                  have HD := Aside0.mk hd
                  have HNZ := Aside0.mk (fok_room HX.out HOK'.out.2)
                  have HLN := Aside0.mk HE.out.few
                  rw [← HNE.out] at HNZ
                  obtain ⟨g1, g2, g3, k1, j1, k2, j2, k3, j3, hg3⟩ := put_nums x n.size z HZ.out (Nat.le_trans HNZ.out HSZ.out)
                  have HG3 := Aside0.mk hg3
                  clear hg3 hd
                  go_wp2_with (first
                    | (go_at_call 24; refine (HW.out _).mono ?_; rintro e w2 ⟨rfl, n2, rfl⟩)
                    | (go_at_call 25; refine (HN.out _).mono ?_; rintro e w3 ⟨rfl, n3, rfl⟩)
                    | (go_at_call 26; refine (HG.out _).mono ?_; rintro e w4 ⟨rfl, n4, rfl⟩)
                    | (at_lookup; refine wpList_look _ rfl _ _ 45 rfl 9 4 Try.underlying9 Try.underlying45 fzero w.heap.size out.length D (out.map (fun h => h.f1.data.toList)) rfl (fown_at HO.out rfl) HS.out n HNS.out rfl ?_; rw [HIN.out])
                    | (at_mapUpdate; refine wpList_add _ rfl _ _ _ 45 rfl 9 4 Try.underlying9 Try.underlying45 w.heap.size out.length D (out.map (fun h => h.f1.data.toList)) rfl (fown_at HO.out rfl) (by have := HLN.out; have := HSZ.out; have := HX.out; omega) HS.out n HNS.out rfl rfl ?_
                       intro w5 D5 ho5 hs5 hg5
                       have HO5 := Aside0.mk ho5; have HS5 := Aside0.mk hs5
                       obtain ⟨hr5, hb5⟩ := HE.out.added (by repeat (first | exact Below.refl _ _ | apply pw_below_drewN | apply below_drew1 | apply below_drew)) hg5
                       have HR5 := Aside0.mk hr5; have HB5 := Aside0.mk hb5
                       clear ho5 hs5 hg5 hr5 hb5)
                    | ((with_reducible refine gate_builtin (b := .append) (xs := #[.tmp 56, .tmp 60]) rfl ?_); at_builtin
                       refine Kd.R_append kHl (w0 := w) w.heap.size rfl (.tmp 56) (.tmp 60) 33 49 (.agg #[(.string ⟨#[]⟩), (.string ⟨#[]⟩)]) 32 rfl Try.underlying33 (by kernel_rfl) rfl (by decide) (by omega) _ out (⟨t, n⟩ : SHl) [.string t, .string n] (fun k => k ≠ w.heap.size) (fun _ => False) rfl (by first | (go_simp; done) | (go_simp; rfl)) ?aP (fun _ hk => hk.elim) ?aF ?aO ?aB ?aS ?aL ?_
                       (case aP => exact kHl_mkM _ _ _ (⟨t, n⟩ : SHl)); (case aF => exact fun k hk => by have := fown_lt HO5.out; intro he; subst he; exact absurd hk (Nat.not_le.2 this)); (case aO => exact Kd.R_below HR5.out (by repeat (first | exact Below.refl _ _ | apply pw_below_drewN | apply below_drew1 | apply below_drew))); (case aB => exact below_step HB5.out (by repeat (first | exact Below.refl _ _ | apply pw_below_drewN | apply below_drew1 | apply below_drew))); (case aS => exact below_size HB5.out); (case aL => have := HLN.out; have := HSZ.out; have := HX.out; omega)
                       intro v1 w6 ho6 hb6 hg6 hat6
                       have HO6 := Aside0.mk ho6; have HB6 := Aside0.mk hb6
                       have HM6 := Aside0.mk (fown_at HO5.out (hg6.block w.heap.size (fown_lt HO5.out) (fun he => HR5.out.1 w.heap.size he.symm rfl)))
                       clear ho6 hb6 hg6 hat6))
                  go_roundg (p.size - (x + (n.size + 1) + 1))
                  case measure => have := HM.out; have := HX.out; omega
                  case rel => exact ⟨x + (n.size + 1) + 1, ⟨#[]⟩, out ++ [⟨t, n⟩], rfl, by rw [HG3.out], by omega, ⟨by have h1 := HE.out.put HX.out HOK'.out HD.out (by rw [← HNE.out]; exact HO6.out) HM6.out (by rw [← HNE.out]; exact HS5.out) HB6.out; rw [← HNE.out] at h1; exact h1.below (by repeat (first | exact Below.refl _ _ | apply pw_below_drewN | apply below_drew1 | apply below_drew))⟩⟩
        · have h60b : (bt p z == 60) = false := beq_eq_false_iff_ne.mpr h60
          have HC := CHAR (fun h => h60 (HBT.out.trans h.1))
          clear h60 CHAR
          go_wp2
          go_roundg (p.size - (x + 1))
          case measure => have := HM.out; have := HX.out; omega
          case rel => exact ⟨x + 1, _, out, rfl, by rw [HY.out, HZ.out]; rfl, by omega, ⟨by rw [HTE.out]; exact HC.out.below (by repeat (first | exact Below.refl _ _ | apply pw_below_drewN | apply below_drew1 | apply below_drew))⟩⟩
      · have q6b : decide ((x : Int) < (p.size : Int)) = false := decide_eq_false (by omega)
        have q6c : decide (x < p.size) = false := decide_eq_false hx
        have q6d : ((x : Int) < (p.size : Int)) = False := eq_false (by omega)
        have q6e : (x < p.size) = False := eq_false hx
        have HV := Aside0.mk (HE.out.done hx)
        have HLN := Aside0.mk (show out.length ≤ 100 by have := HE.out.few; have := HE.out.le; have := HSZ.out; omega)
        clear hx hg
        obtain ⟨A4, c4, e4⟩ := Kd.R_slice HE.out.row
        subst e4
        go_wp2_with (first
          | ((with_reducible refine gate_builtin (b := .append) (xs := #[.tmp 74, .tmp 77]) rfl ?_); at_builtin
             refine Kd.R_append kHl (w0 := w) w.heap.size rfl (.tmp 74) (.tmp 77) 33 49 (.agg #[(.string ⟨#[]⟩), (.string ⟨#[]⟩)]) 32 rfl Try.underlying33 (by kernel_rfl) rfl (by decide) (by omega) _ out (⟨t, ⟨#[]⟩⟩ : SHl) [.string t, .string ⟨#[]⟩] (fun _ => True) (fun _ => False) rfl (by first | (go_simp; done) | (go_simp; rfl)) ?aP (fun _ hk => hk.elim) ?aF ?aO ?aB ?aS ?aL ?_
             (case aP => exact kHl_mkM _ _ _ (⟨t, ⟨#[]⟩⟩ : SHl)); (case aF => exact fun _ _ => trivial); (case aO => exact Kd.R_mono (HE.out.below (by repeat (first | exact Below.refl _ _ | apply pw_below_drewN | apply below_drew1 | apply below_drew))).row (fun _ _ => trivial)); (case aB => exact (HE.out.below (by repeat (first | exact Below.refl _ _ | apply pw_below_drewN | apply below_drew1 | apply below_drew))).low); (case aS => exact below_size HE.out.low); (case aL => have := HLN.out; omega)
             intro v1 w6 ho6 hb6 hg6 hat6
             have HO6 := Aside0.mk ho6; have HB6 := Aside0.mk hb6
             clear ho6 hb6 hg6 hat6))
        go_ret2
        rw [HV.out]
        exact ⟨_, by first | rfl | (simp; done), Kd.R_below HO6.out (by repeat (first | exact Below.refl _ _ | apply pw_below_drewN | apply below_drew1 | apply below_drew)), below_step HB6.out (by repeat (first | exact Below.refl _ _ | apply pw_below_drewN | apply below_drew1 | apply below_drew))⟩
end Go.Proofs.Ytpnldoegchjmmaa.PFnExactPartsOf
