/- Proved: FnStrange's law holds for every code. Conditions: none. -/
import Derived.Test.YtedfbdholjjflaaPFnStrangex6
import Derived.Test.YtedfbdholjjflaaHDrawPlain
namespace Go.Proofs.Ytedfbdholjjflaa.Pure
open Go.RowKit Go.Proofs.Ytedfbdholjjflaa.PFnStrange Go.Proofs.YtedfbdholjjflaaW.PrintWords Go.Proofs.YtedfbdholjjflaaW.PrintLast Go.Proofs.Ytedfbdholjjflaa.Evs Go.Proofs.Ytedfbdholjjflaa.AFnStrange
set_option linter.unusedVariables false
set_option linter.unusedSimpArgs false
/-- The band, as both of them answer it. -/
def bandOfM (l : List SM) (t s b w : Int) : Int × Int × Bool := if fineB s b w = true then bandB (liveM l) t s b w else (0, 0, false)
theorem implBandOf_ev (l : List SM) (hl : l.length ≤ 1048576) (hg : goodM l = true) (t s b w : Int) (h0 : 0 ≤ t) (h1 : t ≤ 1000000000000) : EvP (fun k => impl_BandOf.f k l t s b w) (fun r => r = bandOfM l t s b w) := by
  unfold impl_BandOf.f bandOfM
  refine EvP.bind (implGood_ev l hl) (fun g e => ?_)
  subst e
  refine EvP.pos hg ?_
  rw [goodBand_ev]
  simp only [Option.bind_some]
  refine EvP.step ?_
  simp only [impl_BandOf.j0]
  cases hf : fineB s b w with
  | false => exact EvP.pos (by first | rfl | trivial) (EvP.now rfl)
  | true =>
    obtain ⟨f1, f2, f3, f4, f5, f6⟩ := fine_all hf
    refine EvP.neg (by decide) ?_
    unfold impl_live.f
    rw [if_pos hl]
    simp only [Option.bind_some]
    refine EvP.bind (implBand_ev (liveM l) (by have := live_len l; omega) (live_sorted hg) t s b w h0 h1 f1 f2 (by omega) f4) (fun r e => ?_)
    subst e
    exact EvP.now rfl
theorem specBandOf_ev (l : List SM) (hl : l.length ≤ 1048576) (hg : goodM l = true) (t s b w : Int) (h0 : 0 ≤ t) (h1 : t ≤ 1000000000000) : EvP (fun k => spec_BandOf.f k l t s b w) (fun r => r = bandOfM l t s b w) := by
  unfold spec_BandOf.f bandOfM
  refine EvP.bind (fineS_ev l hl s b w) (fun g e => ?_)
  subst e
  rw [hg, Bool.true_and]
  cases hf : fineB s b w with
  | false =>
    refine EvP.neg (by decide) (EvP.step ?_)
    simp only [spec_BandOf.j0]
    exact EvP.pos (by first | rfl | trivial) (EvP.now rfl)
  | true =>
    obtain ⟨f1, f2, f3, f4, f5, f6⟩ := fine_all hf
    refine EvP.pos (by first | rfl | trivial) ?_
    rw [spec_l3Time_ev, show timeB t = true by unfold timeB; rw [decide_eq_true h0, decide_eq_true h1]; rfl]
    simp only [Option.bind_some]
    refine EvP.step ?_
    simp only [spec_BandOf.j0]
    refine EvP.neg (by decide) (EvP.bind (real_ev l hl) (fun L e => ?_))
    subst e
    refine EvP.bind (specBand_ev (liveM l) (by have := live_len l; omega) (live_sorted hg) (fun x hx => (live_time hg x hx).1) t s b w h0 h1 f1 f2 (by omega) f4) (fun r e => ?_)
    subst e
    exact EvP.now rfl
/-- Of a sample: whether it is strange. -/
def badM (l : List SM) (s b w : Int) (x : SM) : Bool := aliveB x && outB (bandOfM l x.f0 s b w) x.f1
theorem strange_filter (l : List SM) (hg : goodM l = true) (s b w : Int) : strangeM l s b w = l.filter (badM l s b w) := by
  unfold strangeM
  rw [hg, Bool.true_and]
  cases hf : fineB s b w with
  | false =>
    rw [if_neg (by decide), List.filter_eq_nil_iff.2]
    intro x _
    unfold badM bandOfM
    rw [hf, if_neg (by decide)]
    unfold outB
    simp
  | true =>
    rw [if_pos rfl]
    unfold liveM
    rw [List.filter_filter]
    refine List.filter_congr (fun x _ => ?_)
    unfold badM bandOfM oddB
    rw [hf, if_pos rfl, Bool.and_comm]
    rfl
theorem law_loop (l : List SM) (hl : l.length ≤ 1000) (hg : goodM l = true) (s b w : Int) (out : List SM) (ho : out.length ≤ 1000) : ∀ (d i n : Nat), i + d = l.length → n ≤ out.length → out.drop n = (l.drop i).filter (badM l s b w) →
    EvP (fun k => laws_FnStrange.l0 k l s b w out (n : Int) l (l.length : Int) (i : Int)) (fun r => r = true) := by
  intro d
  induction d with
  | zero =>
    intro i n h hn hd
    refine EvP.step ?_
    simp only [laws_FnStrange.l0]
    refine EvP.neg (by omega) (EvP.now ?_)
    rw [List.drop_of_length_le (show l.length ≤ i by omega), List.filter_nil] at hd
    have := List.drop_eq_nil_iff.1 hd
    rw [beq_iff_eq]
    omega
  | succ d ih =>
    intro i n h hn hd
    have hi : i < l.length := by omega
    have hget : rdM l (i : Int) = l[i] := rdM_get l i hi
    have ht := good_time hg l[i] (List.getElem_mem hi)
    have hnext : wrap64 ((i : Int) + 1) = ((i + 1 : Nat) : Int) := wrap_succ hi (by omega)
    refine EvP.step ?_
    simp only [laws_FnStrange.l0]
    refine EvP.pos (by omega) (EvP.pos (by omega) (EvP.pos (by omega) ?_))
    rw [show rd_T29 l (i : Int) = l[i] from hget]
    refine EvP.bind (implBandOf_ev l (by omega) hg l[i].f0 s b w ht.1 ht.2) (fun r hr => ?_)
    refine EvP.bind (specBandOf_ev l (by omega) hg l[i].f0 s b w ht.1 ht.2) (fun r' hr' => ?_)
    subst hr'
    rw [← hr]
    refine EvP.neg (by simp) (EvP.pos rfl ?_)
    rw [bne_self_eq_false]
    refine EvP.step ?_
    simp only [laws_FnStrange.j1]
    refine EvP.neg (by decide) ?_
    rw [List.drop_eq_getElem_cons hi] at hd
    have no : badM l s b w l[i] = false → EvP (fun k => laws_FnStrange.j2 k l s b w out (n : Int) l (l.length : Int) (i : Int) true l[i].f0 l[i].f1) (fun r => r = true) := by
      intro hb
      rw [List.filter_cons_of_neg (by rw [hb]; decide)] at hd
      refine EvP.step ?_
      simp only [laws_FnStrange.j2]
      rw [hnext]
      exact EvP.pos (by first | rfl | trivial) (ih (i + 1) n (by omega) hn hd)
    have yes : badM l s b w l[i] = true → EvP (fun k => laws_FnStrange.j2 k l s b w out (n : Int) l (l.length : Int) (i : Int) false l[i].f0 l[i].f1) (fun r => r = true) := by
      intro hb
      rw [List.filter_cons_of_pos hb] at hd
      have hlt : n < out.length := by
        rcases Nat.lt_or_ge n out.length with h | h
        · exact h
        · rw [List.drop_of_length_le h] at hd
          exact absurd hd (by simp)
      rw [List.drop_eq_getElem_cons hlt] at hd
      injection hd with hx hrest
      have hget2 : rdM out (n : Int) = l[i] := by rw [rdM_get out n hlt]; exact hx
      refine EvP.step ?_
      simp only [laws_FnStrange.j2]
      rw [hnext, show wrap64 ((n : Int) + 1) = ((n + 1 : Nat) : Int) from wrap_succ hlt (by omega), show rd_T29 out (n : Int) = l[i] from hget2]
      exact EvP.neg (by decide) (EvP.neg (by omega) (EvP.pos (by omega) (EvP.pos (by omega) (EvP.neg (by simp) (ih (i + 1) (n + 1) (by omega) hlt hrest)))))
    have hbad : badM l s b w l[i] = (aliveB l[i] && outB r l[i].f1) := by unfold badM; rw [hr]
    unfold aliveB outB at hbad
    refine EvP.ite (fun h1 => ?_) (fun h1 => EvP.ite (fun h2 => EvP.ite (fun h3 => ?_) (fun h3 => ?_)) (fun h2 => ?_))
    · exact no (by rw [hbad, h1]; rfl)
    · by_cases h4 : l[i].f1 ≤ r.2.1
      · rw [decide_eq_true h4]
        exact no (by rw [hbad, decide_eq_false (show ¬ l[i].f1 < r.1 by omega), decide_eq_false (show ¬ r.2.1 < l[i].f1 by omega)]; simp)
      · rw [decide_eq_false h4]
        exact yes (by rw [hbad, h2, decide_eq_true (show r.2.1 < l[i].f1 by omega)]; simp [h1])
    · exact yes (by rw [hbad, h2, decide_eq_true (show l[i].f1 < r.1 by omega)]; simp [h1])
    · exact no (by rw [hbad, Bool.eq_false_iff.2 h2]; simp)
theorem FnStrange : laws_FnStrange.Pure := by
  intro l0 h1 h2 hw
  have hb : BytesM l0 := by
    intro x hx
    have := hw x hx
    simpa [Lit.wf, IntKind.min, IntKind.max, IntKind.signed, IntKind.bits] using this
  refine EvP.rounds (g := fun k => laws_FnStrange.f k l0) ?_
  unfold laws_FnStrange.f
  refine EvP.ite (fun _ => EvP.now rfl) (fun hlen => ?_)
  refine EvP.bind (draw_ev hb) (fun r hr => ?_)
  obtain ⟨l, s, b, w⟩ := r
  have hl : l.length ≤ 33 := hr
  dsimp only
  unfold impl_StrangeIn.f
  rw [if_pos (by omega)]
  simp only [Option.bind_some]
  refine EvP.bind (specGood_ev l (by omega)) (fun g e => ?_)
  subst e
  refine EvP.ite (fun hg => ?_) (fun hg => EvP.now ?_)
  · refine law_loop l (by omega) hg s b w (strangeM l s b w) ?_ l.length 0 0 (by omega) (Nat.zero_le _) ?_
    · rw [strange_filter l hg]
      have := List.length_filter_le (badM l s b w) l
      omega
    · rw [strange_filter l hg]
      rfl
  · unfold strangeM
    rw [Bool.eq_false_iff.2 hg]
    rfl
end Go.Proofs.Ytedfbdholjjflaa.Pure
