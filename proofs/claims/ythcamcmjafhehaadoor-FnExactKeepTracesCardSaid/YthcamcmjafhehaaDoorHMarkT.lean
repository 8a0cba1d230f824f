/- laws.markTraceS: it writes into the traces and into their calls, and nowhere else. -/
import Derived.Test.YthcamcmjafhehaaDoorPFnExactKeepTracesx8
namespace Go.Proofs.YthcamcmjafhehaaDoor.PFnExactKeepTraces
open Go.RowKit Go.Proofs.YthcamcmjafhehaaDoorW.PrintWords Go.Proofs.YthcamcmjafhehaaDoorW.PrintLast Go.Proofs.YthcamcmjafhehaaDoorW.PrintMore
set_option linter.unusedVariables false
set_option linter.unusedSimpArgs false
abbrev ST := S51
abbrev rdTr := rd_T51
abbrev kTr := k51
/-- What is neither a row of traces nor one of calls stays. -/
def OnlyT (w w' : World) : Prop := w.heap.size ≤ w'.heap.size ∧ ∀ i, i < w.heap.size → (¬ ∃ cs, w.heap[i]? = some (.cells cs 51 (0, 0))) → (¬ ∃ cs, w.heap[i]? = some (.cells cs 60 (0, 0))) → w'.heap[i]? = w.heap[i]?
theorem OnlyT.refl (w : World) : OnlyT w w := ⟨Nat.le_refl _, fun _ _ _ _ => rfl⟩
theorem OnlyT.trans {w w1 w2 : World} (h : OnlyT w w1) (k : OnlyT w1 w2) : OnlyT w w2 :=
  ⟨Nat.le_trans h.1 k.1, fun i hi h1 h2 => by
    have e := h.2 i hi h1 h2
    rw [← e] at h1 h2
    exact (k.2 i (Nat.lt_of_lt_of_le hi h.1) h1 h2).trans e⟩
theorem OnlyT.row {α : Type} {d : Kd α} {w w1 : World} (h : OnlyT w w1) {e base : Nat} {ok : Nat → Prop} {v : Value} {xs : List α} (hr : d.R e w base ok v xs) (hE : ∀ q, q ∈ e :: d.E → q ≠ 51 ∧ q ≠ 60) : d.R e w1 base ok v xs := by
  refine Kd.R_mono (Kd.R_step (Kd.R_bound hr) (fun k hk hlt => ?_)) (fun _ hk => hk.1)
  obtain ⟨_, _, _, q, hq, cells, hc⟩ := hk
  refine h.2 k hlt (fun ⟨cs, e'⟩ => ?_) (fun ⟨cs, e'⟩ => ?_)
  · rw [hc] at e'
    injection e' with e'
    injection e' with _ e2
    exact (hE q hq).1 e2
  · rw [hc] at e'
    injection e' with e'
    injection e' with _ e2
    exact (hE q hq).2 e2
theorem OnlyT.set {w : World} {g : Nat} {cs : Array Value} (hb : w.heap[g]? = some (.cells cs 51 (0, 0))) (j : Nat) (u : Value) : OnlyT w (w.setCell ⟨g, j, none⟩ u) := by
  refine ⟨Nat.le_of_eq (by first | rfl | simp), fun i hi h1 _ => Below.heap_setCell w ⟨g, j, none⟩ u i (fun e => h1 ⟨cs, ?_⟩)⟩
  have e' : i = g := e
  rw [e']
  exact hb
theorem OnlyT.kept {w w1 : World} {v : Value} (hk : Kept w w1 (fun q => some q = v.ownBlock)) (ht : ∀ k, v.ownBlock = some k → ∃ cells, w.heap[k]? = some (.cells cells 60 (0, 0))) : OnlyT w w1 :=
  ⟨hk.1, fun i hi _ h2 => hk.2 i hi (fun e => h2 (ht i e.symm))⟩
def markT (k : Nat) : List ST → Int → Option Int
  | [], a => some a
  | x :: xs, a => (laws_markCallS.f k x.f1 (wrap64 (a + 1))).bind fun r => markT k xs r.1
theorem markT_mono (k : Nat) : ∀ (l : List ST) (a : Int), LeO (markT k l a) (markT (k + 1) l a)
  | [], _ => LeO.refl _
  | x :: xs, a => LeO.bind (laws_markCallS.mono _ _ _) (fun r => markT_mono k xs _)
def laws_markTraceS.f (k : Nat) (l : List ST) (a : Int) : Option Int := if l.length ≤ 1048576 then markT k l a else none
theorem laws_markTraceS.mono (l : List ST) (a : Int) (k : Nat) : LeO (laws_markTraceS.f k l a) (laws_markTraceS.f (k + 1) l a) := LeO.ite (markT_mono k l a) (LeO.refl _)
theorem getD_tr (l : List ST) (i : Nat) (h : i < l.length) : l.getD (i : Int).toNat z51 = l[i] := by
  rw [Int.toNat_natCast, List.getD_eq_getElem?_getD, List.getElem?_eq_getElem h]
  rfl
set_option maxHeartbeats 8000000 in
set_option maxRecDepth 100000 in
theorem laws_markTraceS.calls (k : Nat) (A0 : Option Addr) (c0 : Nat) (l0 : List ST) (a1 r : Int) (w0 w : World) (hB : Below w0.heap.size w0 w) (ho : Kd.S kTr 51 w w0.heap.size (fun _ => True) (.slice A0 l0.length c0) l0) (h : laws_markTraceS.f k l0 a1 = some r) :
    Calls Tryd.prog 14 #[.slice A0 l0.length c0, .int .i64 a1] w fun e w' => e = .returned (.int .i64 r) ∧ Below w0.heap.size w0 w' ∧ OnlyT w w' := by
  unfold laws_markTraceS.f at h
  by_cases hl : l0.length ≤ 1048576
  case neg => rw [if_neg hl] at h; cases h
  rw [if_pos hl] at h
  have HS := Aside0.mk ho
  have HB := Aside0.mk hB
  have HL := Aside0.mk hl
  have HM := Aside0.mk h
  have HO := Aside0.mk (OnlyT.refl w)
  clear ho hB hl h
  go_enter Tryd.func14, Tryd.ntmps14
  go_wp2
  go_loopg [1, 5] l0.length (fun gg v1 v5 wr => ∃ (i : Nat) (a : Int) (l : List ST), v1 = .int .i64 a ∧ v5 = .int .i64 i ∧ i ≤ l0.length ∧ l0.length - i ≤ gg ∧ Aside0 (l.length = l0.length ∧ l.drop i = l0.drop i) ∧ Aside0 (markT k (l0.drop i) a = some r) ∧ Aside0 (Kd.S kTr 51 wr w0.heap.size (fun _ => True) (.slice A0 l0.length c0) l) ∧ Aside0 (Below w0.heap.size w0 wr) ∧ Aside0 (OnlyT w wr))
  case atStart => exact ⟨0, a1, l0, rfl, rfl, Nat.zero_le _, by omega, ⟨rfl, rfl⟩, HM, HS, HB, HO⟩
  case round =>
    clear HS HB HM HO
    obtain ⟨i, a, l, rfl, rfl, hi, hg, HD, HM, HS, HB, HO⟩ := hrel
    by_cases hlt : i < l0.length
    · have hltz : (i : Int) < (l0.length : Int) := by omega
      have hll : i < l.length := by have := HD.out.1; omega
      have hdr := HD.out.2
      rw [List.drop_eq_getElem_cons hll, List.drop_eq_getElem_cons hlt] at hdr
      injection hdr with hx0 hdr2
      have hm := HM.out
      rw [List.drop_eq_getElem_cons hlt] at hm
      simp only [markT] at hm
      obtain ⟨⟨q1, q2⟩, hq, hm2⟩ := Option.bind_eq_some_iff.1 hm
      rw [← hx0] at hq
      have HQ := Aside0.mk hq
      have HM2 := Aside0.mk hm2
      have HD2 := Aside0.mk hdr2
      clear hq hm2 hdr2 hm hx0 HM
      obtain ⟨G, cp, hA, hG, _, gcells, hgb⟩ := Kd.S_form HS.out (by omega)
      injection hA with hA1 hA2 hA3
      subst hA1
      clear hA2 hA3
      obtain ⟨oki, c, hcl, hM, hcc, hfr, hoki, hH⟩ := Kd.S_elem HS.out z51 (i : Int) (by omega) hltz
      rw [getD_tr l i hll] at hM
      obtain ⟨v1, rfl, hR⟩ := k51_openM hM
      have hc0 : wr.cell? ⟨G, i * 2, none⟩ = some (.int .i64 l[i].f0) := hcc 0 _ rfl
      have hf0 : wr.frozen? ⟨G, i * 2, none⟩ = false := hfr 0
      have hs1 := Kd.S_seg (okg := fun _ => False) (Kd.H_mono hH (fun _ hk => ⟨hk, fun h => h⟩)) (by omega) hltz (seg := [.int .i64 a]) (j := 0) (show 0 + 1 ≤ 2 by omega) (x' := (⟨a, l[i].f1⟩ : ST)) (k51_mkM wr w0.heap.size oki (⟨a, l[i].f1⟩ : ST) hR) (fun _ hk => .inl hk) (fun _ hk => hk.elim)
      have HS1 := Aside0.mk hs1.1
      have HB1 := Aside0.mk (below_set HB.out hG (j := i * 2) (v := .int .i64 a))
      have HO1 := Aside0.mk (HO.out.trans (OnlyT.set hgb (i * 2) (.int .i64 a)))
      clear hs1 hH hM hcc hfr hoki hcl hR hgb HS HB HO
      go_upto_region 5 with (fail)
      clear hc0 hf0
      replace HS1 : Aside0 (Kd.S kTr 51 (wr.setCell ⟨G, i * 2, none⟩ (.int .i64 a)) w0.heap.size (fun _ => True) (.slice (some ⟨G, 0, none⟩) l0.length c0) (l.set (i : Int).toNat ⟨a, l[i].f1⟩)) := ⟨HS1.out⟩
      generalize wr.setCell ⟨G, i * 2, none⟩ (.int .i64 a) = W1 at HS1 HB1 HO1 ⊢
      generalize hl1 : l.set (i : Int).toNat ⟨a, l[i].f1⟩ = l1 at HS1
      rw [Int.toNat_natCast] at hl1
      have hll1 : i < l1.length := by rw [← hl1, List.length_set]; exact hll
      have hge : l1[i] = (⟨a, l[i].f1⟩ : ST) := by subst hl1; exact List.getElem_set_self _
      obtain ⟨oki, c, hcl, hM, hcc, hfr, hoki, hH⟩ := Kd.S_elem HS1.out z51 (i : Int) (by omega) hltz
      rw [getD_tr l1 i hll1, hge] at hM
      obtain ⟨v1, rfl, hR⟩ := k51_openM hM
      obtain ⟨A1, c1, rfl⟩ := Kd.R_slice hR
      have hc1 : W1.cell? ⟨G, i * 2 + 1, none⟩ = some (.slice A1 l[i].f1.length c1) := hcc 1 _ rfl
      have HR := Aside0.mk hR
      have HH := Aside0.mk hH
      clear hcl hM hcc hfr hoki hH hR
      go_wp2_with (go_at_call 36; refine (laws_markCallS.calls k (fun q => some q = (Value.slice A1 l[i].f1.length c1).ownBlock) (.slice A1 l[i].f1.length c1) l[i].f1 (wrap64 (a + 1)) q1 q2 w0 _ HB1.out (Kd.R_tight rfl HR.out) HQ.out).mono ?_; rintro e W2 ⟨rfl, hr2, hb2, hk2⟩; have HR2 := Aside0.mk hr2; have HB2 := Aside0.mk hb2; have HK2 := Aside0.mk hk2; clear hr2 hb2 hk2)
      clear hc1 HQ
      have hS2 := Kd.H_back (Kd.H_step HH.out (w1 := W2) (fun q _ hn hlt' => HK2.out.2 q hlt' (fun e => hn (HR.out.1 q e.symm)))) (x' := (⟨a, q2⟩ : ST)) (okp := oki) (k51_mkM W2 w0.heap.size oki (⟨a, q2⟩ : ST) (Kd.R_mono (Kd.R_tight rfl HR2.out) (fun q e => HR.out.1 q e.symm))) (fun _ hk => hk)
      have HS2 := Aside0.mk hS2
      have HO2 := Aside0.mk (HO1.out.trans (OnlyT.kept HK2.out (Kd.R_typed HR.out)))
      clear hS2 HS1 HO1 HB1 HK2 HR2 HR HH
      go_roundg (l0.length - (i + 1))
      case measure => omega
      case rel =>
        have hw : IntKind.i64.wrap ((i : Int) + 1) = ((i + 1 : Nat) : Int) := by have := HL.out; rw [IntKind.wrap_i64]; omega
        refine ⟨i + 1, q1, l1.set (i : Int).toNat ⟨a, q2⟩, rfl, ?_, by omega, by omega, ⟨?_, ?_⟩, HM2, HS2, HB2, HO2⟩
        · first | rfl | (rw [hw]; done) | (congr 1; done) | (simp [hw]; done) | (have hw2 : wrap64 ((i : Int) + 1) = ((i + 1 : Nat) : Int) := by { have := HL.out; unfold wrap64; omega }; rw [hw2])
        · rw [List.length_set, ← hl1, List.length_set]
          exact HD.out.1
        · rw [Int.toNat_natCast, ← hl1, List.drop_set_of_lt (by omega), List.drop_set_of_lt (by omega)]
          exact HD2.out
    · have e : i = l0.length := by omega
      subst e
      have hm := HM.out
      rw [List.drop_length] at hm
      obtain rfl := Option.some.inj hm
      clear hm
      go_wp2
      first | go_end0 | ((try simp only [Exit.inBlock, Exit.then]); refine bodyPost_ret (results_one rfl _ _ _) rfl ?_) | go_ret
      exact ⟨rfl, HB.out, HO.out⟩
end Go.Proofs.YthcamcmjafhehaaDoor.PFnExactKeepTraces
