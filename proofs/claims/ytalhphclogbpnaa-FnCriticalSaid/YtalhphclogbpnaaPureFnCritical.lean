/- Parts of one claim's proof, put together (merge.py). -/
import Derived.Test.YtalhphclogbpnaaEv
import Derived.Test.YtalhphclogbpnaaHDraw
import Derived.Laws.Bits64b
import Derived.Test.YtalhphclogbpnaaHCritical
import Derived.Test.YtalhphclogbpnaaSelfPlain
import Derived.Test.YtalhphclogbpnaaPFnCriticalx7
/- The draw of a trace comes to an end; its numbers are within range. -/
namespace Go.Proofs.Ytalhphclogbpnaa.PFnCritical
open Go.RowKit Go.Proofs.YtalhphclogbpnaaW.PrintWords Go.Proofs.YtalhphclogbpnaaW.PrintLast Go.Proofs.Ytalhphclogbpnaa.Evs
set_option linter.unusedVariables false
set_option linter.unusedSimpArgs false
def BytesM (l : List Int) : Prop := ∀ x ∈ l, 0 ≤ x ∧ x ≤ 255
/-- What a draw leaves: the place goes on by at most c. -/
def OnM (a c : Int) (b : Int) : Prop := a ≤ b ∧ b ≤ a + c
theorem and255 (x : Int) : 0 ≤ wrap64 (Go.bits .and .u64 (IntKind.u64.wrap x / 1099511627776) 255) ∧ wrap64 (Go.bits .and .u64 (IntKind.u64.wrap x / 1099511627776) 255) ≤ 255 := by
  rw [IntKind.wrap_u64]
  have h0 : 0 ≤ x % 18446744073709551616 / 1099511627776 := by omega
  have h1 : x % 18446744073709551616 / 1099511627776 < 18446744073709551616 := by omega
  generalize x % 18446744073709551616 / 1099511627776 = y at h0 h1
  obtain ⟨n, rfl⟩ := Int.eq_ofNat_of_zero_le h0
  have h2 := bits_and_u64_nat n 255 (by omega) (by omega)
  have h3 : n &&& 255 ≤ 255 := Nat.and_le_right
  rw [show ((255 : Nat) : Int) = (255 : Int) from rfl] at h2
  rw [h2, Evs.w64 (by omega) (by omega)]
  omega
theorem rd_byte {l : List Int} (hl : BytesM l) (i : Int) (h0 : 0 ≤ i) (h : i < (l.length : Int)) : 0 ≤ rd l i ∧ rd l i ≤ 255 := by
  obtain ⟨n, rfl⟩ := Int.eq_ofNat_of_zero_le h0
  have h' : n < l.length := by omega
  rw [show rd l (n : Int) = l[n] from rd_get l n h']
  exact hl _ (List.getElem_mem h')
theorem next_ev {l : List Int} (hl : BytesM l) (a s : Int) (h0 : 0 ≤ a) (h1 : a ≤ 4000000000000000000) : ∃ r, spec_l1Cur_next.f l a s = some r ∧ 0 ≤ r.1 ∧ r.1 ≤ 255 ∧ OnM a 1 r.2.1 := by
  unfold spec_l1Cur_next.f
  rw [show wrap64 (a + 1) = a + 1 from Evs.w64 (by omega) (by omega)]
  by_cases h : a < (l.length : Int)
  · rw [if_pos h, if_pos h0, if_pos (by omega)]
    have hb := rd_byte hl a h0 h
    exact ⟨_, rfl, by rw [show wrap64 (rd l a) = rd l a from Evs.w64 (by omega) (by omega)]; exact hb.1, by rw [show wrap64 (rd l a) = rd l a from Evs.w64 (by omega) (by omega)]; exact hb.2, by show a ≤ a + 1; omega, by show a + 1 ≤ a + 1; omega⟩
  · rw [if_neg h, if_neg (by omega)]
    exact ⟨_, rfl, (and255 _).1, (and255 _).2, by show a ≤ a + 1; omega, by show a + 1 ≤ a + 1; omega⟩
theorem tmod_in {x n : Int} (h : 0 ≤ x) (hn : 0 < n) : 0 ≤ Int.tmod x n ∧ Int.tmod x n < n := by
  rw [Int.tmod_eq_emod_of_nonneg h]
  exact ⟨Int.emod_nonneg _ (by omega), Int.emod_lt_of_pos _ hn⟩
theorem pick_ev {l : List Int} (hl : BytesM l) (a s n : Int) (h0 : 0 ≤ a) (h1 : a ≤ 3900000000000000000) (hn : 1 ≤ n) : ∃ r, spec_l1Cur_pick.f l a s n = some r ∧ 0 ≤ r.1 ∧ r.1 < n ∧ OnM a 2 r.2.1 := by
  unfold spec_l1Cur_pick.f
  by_cases h : n ≤ 1
  · rw [if_pos h]
    exact ⟨_, rfl, by show (0 : Int) ≤ 0; omega, by show (0 : Int) < n; omega, by show a ≤ a; omega, by show a ≤ a + 2; omega⟩
  · rw [if_neg h]
    obtain ⟨⟨x, b, t⟩, e, hx0, hx1, hb⟩ := next_ev hl a s h0 (by omega)
    rw [e]
    unfold OnM at hb
    simp only [Option.bind_some] at *
    by_cases hg : n > 200
    · rw [if_pos hg]
      obtain ⟨⟨x2, b2, t2⟩, e2, hy0, hy1, hb2⟩ := next_ev hl b t (by omega) (by omega)
      rw [e2]
      unfold OnM at hb2
      simp only [Option.bind_some] at *
      rw [if_neg (by omega), show wrap64 (x * 256) = x * 256 from Evs.w64 (by omega) (by omega), show wrap64 (x * 256 + x2) = x * 256 + x2 from Evs.w64 (by omega) (by omega)]
      have := tmod_in (x := x * 256 + x2) (n := n) (by omega) (by omega)
      exact ⟨_, rfl, this.1, this.2, by show a ≤ b2; omega, by show b2 ≤ a + 2; omega⟩
    · rw [if_neg hg, if_neg (by omega)]
      have := tmod_in (x := x) (n := n) (by omega) (by omega)
      exact ⟨_, rfl, this.1, this.2, by show a ≤ b; omega, by show b ≤ a + 2; omega⟩
theorem one_ev {l : List Int} (hl : BytesM l) (a s n : Int) (h0 : 0 ≤ a) (h1 : a ≤ 3900000000000000000) (hn : 1 ≤ n) : ∃ r, spec_l1Cur_one.f l a s n = some r ∧ OnM a 2 r.2.1 := by
  unfold spec_l1Cur_one.f
  obtain ⟨⟨x, b, t⟩, e, hx0, hx1, hb⟩ := pick_ev hl a s n h0 h1 hn
  rw [e]
  exact ⟨_, rfl, hb⟩
theorem EvP.draw {α β : Type} {o : Option α} {f : Nat → α → Option β} {Q : β → Prop} {P : α → Prop} (h : ∃ r, o = some r ∧ P r) (k : ∀ r, P r → EvP (fun n => f n r) Q) : EvP (fun n => o.bind (f n)) Q := by
  obtain ⟨r, rfl, hp⟩ := h
  exact k r hp
theorem of_ev {l : List Int} (hl : BytesM l) (a s : Int) (ts : List ByteArray) (h0 : 0 ≤ a) (h1 : a ≤ 3900000000000000000) (hn : 1 ≤ (ts.length : Int)) : ∃ r, spec_l1Cur_of.f l a s ts = some r ∧ OnM a 2 r.2.1 := by
  unfold spec_l1Cur_of.f
  obtain ⟨⟨x, b, t⟩, e, hx0, hx1, hb⟩ := pick_ev hl a s (ts.length : Int) h0 h1 hn
  rw [e]
  simp only [Option.bind_some] at *
  rw [if_pos hx0, if_pos hx1]
  exact ⟨_, rfl, hb⟩
def wfX (x : SC) : Prop := wfI x.f0 = true ∧ wfI x.f1 = true ∧ wfI x.f4 = true ∧ wfI x.f5 = true
theorem wf_in {x : Int} (h0 : -9223372036854775808 ≤ x) (h1 : x ≤ 9223372036854775807) : wfI x = true := by
  unfold wfI
  simp [Lit.wf, IntKind.min, IntKind.max, IntKind.signed, IntKind.bits]
  omega
theorem wfw (x : Int) : wfI (wrap64 x) = true := by
  refine wf_in ?_ ?_ <;> (unfold wrap64; omega)
theorem rdT_mem {l : List SC} (hw : ∀ x ∈ l, wfX x) (i : Int) (h0 : 0 ≤ i) (h1 : i < (l.length : Int)) : wfX (rdT l i) := by
  obtain ⟨n, rfl⟩ := Int.eq_ofNat_of_zero_le h0
  have h : n < l.length := by omega
  rw [show rdT l (n : Int) = l[n] from getD_get _ l n h]
  exact hw _ (List.getElem_mem h)
theorem next_tr {s0 : List Int} (hb : BytesM s0) (a s : Int) (l : List SC) (h0 : 0 ≤ a) (h1 : a ≤ 3000000000000000000) (hl : l.length ≤ 1000) (hw : ∀ x ∈ l, wfX x) :
    EvP (fun _ => trNext s0 a s l) (fun r => r.1.length = l.length + 1 ∧ (∀ x ∈ r.1, wfX x) ∧ OnM a 16 r.2.1) := by
  unfold trNext
  refine EvP.draw (pick_ev hb a s 3 h0 (by omega) (by omega)) (fun r1 e1 => ?_)
  unfold OnM at e1
  refine EvP.draw (of_ev hb r1.2.1 r1.2.2 webs (by omega) (by omega) (by decide)) (fun r2 e2 => ?_)
  unfold OnM at e2
  refine EvP.draw (of_ev hb r2.2.1 r2.2.2 gets (by omega) (by omega) (by decide)) (fun r3 e3 => ?_)
  unfold OnM at e3
  refine EvP.draw (pick_ev hb r3.2.1 r3.2.2 10 (by omega) (by omega) (by omega)) (fun r4 e4 => ?_)
  unfold OnM at e4
  refine EvP.draw (one_ev hb r4.2.1 r4.2.2 6 (by omega) (by omega) (by omega)) (fun r5 e5 => ?_)
  unfold OnM at e5
  refine EvP.ite (fun hlt => ?_) (fun hge => ?_)
  · refine EvP.draw (pick_ev hb r5.2.1 r5.2.2 (l.length : Int) (by omega) (by omega) (by omega)) (fun r6 e6 => ?_)
    unfold OnM at e6
    refine EvP.pos ⟨e6.1, e6.2.1⟩ ?_
    refine EvP.draw (pick_ev hb r6.2.1 r6.2.2 12 (by omega) (by omega) (by omega)) (fun r7 e7 => ?_)
    unfold OnM at e7
    refine EvP.draw (pick_ev hb r7.2.1 r7.2.2 30 (by omega) (by omega) (by omega)) (fun r8 e8 => ?_)
    unfold OnM at e8
    refine EvP.pos hl (EvP.now ⟨by simp, fun x hx => ?_, by show a ≤ r8.2.1; omega, by show r8.2.1 ≤ a + 16; omega⟩)
    rcases List.mem_append.1 hx with hx | hx
    · exact hw x hx
    · rw [List.mem_singleton] at hx
      subst hx
      exact ⟨wfw _, (rdT_mem hw r6.1 e6.1 e6.2.1).1, wfw _, wfw _⟩
  · refine EvP.draw (pick_ev hb r5.2.1 r5.2.2 30 (by omega) (by omega) (by omega)) (fun r8 e8 => ?_)
    unfold OnM at e8
    refine EvP.pos hl (EvP.now ⟨by simp, fun x hx => ?_, by show a ≤ r8.2.1; omega, by show r8.2.1 ≤ a + 16; omega⟩)
    rcases List.mem_append.1 hx with hx | hx
    · exact hw x hx
    · rw [List.mem_singleton] at hx
      subst hx
      exact ⟨wfw _, wf_in (x := 0) (by omega) (by omega), wf_in (x := r4.1) (by omega) (by omega), wfw _⟩
theorem tr_loop {s0 : List Int} (hb : BytesM s0) : ∀ (d : Nat) (n a s : Int) (l : List SC), n = d → d ≤ 8 → 0 ≤ a → a + 16 * d ≤ 3000000000000000000 → l.length + d ≤ 8 → (∀ x ∈ l, wfX x) →
    EvP (fun k => spec_l1Cur_trace.l0 k n s0 a s l) (fun r => r.1.length = l.length + d ∧ (∀ x ∈ r.1, wfX x) ∧ OnM a (16 * d) r.2.1) := by
  intro d
  induction d with
  | zero =>
    intro n a s l hn hd h0 h1 hl hw
    refine EvP.step ?_
    simp only [spec_l1Cur_trace.l0]
    exact EvP.neg (by omega) (EvP.now ⟨rfl, hw, by show a ≤ a; omega, by show a ≤ a + _; omega⟩)
  | succ d ih =>
    intro n a s l hn hd h0 h1 hl hw
    refine EvP.step ?_
    simp only [spec_l1Cur_trace.l0]
    refine EvP.pos (by omega) (EvP.bind (next_tr hb a s l h0 (by omega) (by omega) hw) (fun r e => ?_))
    obtain ⟨e1, e2, e3⟩ := e
    unfold OnM at e3
    rw [show wrap64 (n - 1) = n - 1 from Evs.w64 (by omega) (by omega)]
    refine EvP.imp (ih (n - 1) r.2.1 r.2.2 r.1 (by omega) (by omega) (by omega) (by omega) (by omega) e2) (fun q hq => ?_)
    obtain ⟨q1, q2, q3⟩ := hq
    unfold OnM at q3
    exact ⟨by omega, q2, by show a ≤ q.2.1; omega, by show q.2.1 ≤ a + _; omega⟩
theorem trace_ev {s0 : List Int} (hb : BytesM s0) (a s id : Int) (h0 : 0 ≤ a) (h1 : a ≤ 2000000000000000000) :
    EvP (fun k => spec_l1Cur_trace.f k s0 a s id) (fun r => 1 ≤ r.2.1.length ∧ r.2.1.length ≤ 8 ∧ (∀ x ∈ r.2.1, wfX x) ∧ OnM a 200 r.2.2.1) := by
  unfold spec_l1Cur_trace.f
  refine EvP.draw (pick_ev hb a s 8 h0 (by omega) (by omega)) (fun p e => ?_)
  unfold OnM at e
  rw [show wrap64 (1 + p.1) = 1 + p.1 from Evs.w64 (by omega) (by omega)]
  obtain ⟨d, hd⟩ : ∃ d : Nat, 1 + p.1 = (d : Int) := ⟨(1 + p.1).toNat, by omega⟩
  refine EvP.bind (tr_loop hb d (1 + p.1) p.2.1 p.2.2 [] hd (by omega) (by omega) (by omega) (by simp; omega) (fun x hx => by cases hx)) (fun r hr => ?_)
  obtain ⟨q1, q2, q3⟩ := hr
  unfold OnM at q3
  simp only [List.length_nil] at q1
  exact EvP.now ⟨by show 1 ≤ r.1.length; omega, by show r.1.length ≤ 8; omega, q2, by show a ≤ r.2.1; omega, by show r.2.1 ≤ a + 200; omega⟩
theorem put_wf {l : List SC} (hw : ∀ x ∈ l, wfX x) (i : Int) {y : SC} (hy : wfX y) : ∀ x ∈ oddPut l i y, wfX x := fun x hx => by
  unfold oddPut at hx
  rcases List.mem_or_eq_of_mem_set hx with hx | hx
  · exact hw x hx
  · subst hx; exact hy
theorem odd_loop {s0 : List Int} (hb : BytesM s0) : ∀ (d : Nat) (a s : Int) (l : List SC), 101 ≤ l.length + d → l.length ≤ 101 → 1 ≤ l.length → 0 ≤ a → a + 2 * d ≤ 3000000000000000000 → (∀ x ∈ l, wfX x) →
    EvP (fun k => spec_l1Cur_oddTrace.l0 k s0 a s l) (fun r => ∀ x ∈ r, wfX x) := by
  intro d
  induction d with
  | zero =>
    intro a s l hd hl hl1 h0 h1 hw
    refine EvP.step ?_
    simp only [spec_l1Cur_oddTrace.l0]
    refine EvP.draw (pick_ev hb a s 3 h0 (by omega) (by omega)) (fun p e => ?_)
    exact EvP.neg (by rw [show wrap64 (99 + p.1) = 99 + p.1 from Evs.w64 (by omega) (by omega)]; omega) (EvP.now hw)
  | succ d ih =>
    intro a s l hd hl hl1 h0 h1 hw
    refine EvP.step ?_
    simp only [spec_l1Cur_oddTrace.l0]
    refine EvP.draw (pick_ev hb a s 3 h0 (by omega) (by omega)) (fun p e => ?_)
    unfold OnM at e
    refine EvP.ite (fun hc => ?_) (fun _ => EvP.now hw)
    rw [show wrap64 (99 + p.1) = 99 + p.1 from Evs.w64 (by omega) (by omega)] at hc
    refine EvP.pos (by omega) (ih p.2.1 p.2.2 (l ++ [oddNext l]) (by simp; omega) (by simp; omega) (by simp) (by omega) (by omega) (fun x hx => ?_))
    rcases List.mem_append.1 hx with hx | hx
    · exact hw x hx
    · rw [List.mem_singleton] at hx
      subst hx
      have h := rdT_mem hw 0 (by omega) (by omega)
      exact ⟨wfw _, h.1, h.2.2.1, h.2.2.2⟩
theorem oddFrom_wf {x : SC} (hx : wfX x) (r : Int) (h0 : 0 ≤ r) (h1 : r < 4) : wfI (oddFrom x r) = true := by
  have hr : r = 0 ∨ r = 1 ∨ r = 2 ∨ r = 3 := by omega
  rcases hr with rfl | rfl | rfl | rfl
  · exact wf_in (x := -1) (by omega) (by omega)
  · exact hx.2.2.2
  · exact wfw _
  · exact wf_in (x := 0) (by omega) (by omega)
theorem odd_ev {s0 : List Int} (hb : BytesM s0) (a s id : Int) (l : List SC) (hl1 : 1 ≤ l.length) (hl : l.length ≤ 8) (h0 : 0 ≤ a) (h1 : a ≤ 2500000000000000000) (hw : ∀ x ∈ l, wfX x) :
    EvP (fun k => spec_l1Cur_oddTrace.f k s0 a s id l) (fun r => ∀ x ∈ r.2, wfX x) := by
  unfold spec_l1Cur_oddTrace.f
  refine EvP.draw (pick_ev hb a s (l.length : Int) h0 (by omega) (by omega)) (fun i ei => ?_)
  unfold OnM at ei
  refine EvP.pos ⟨ei.1, ei.2.1⟩ ?_
  have hx := rdT_mem hw i.1 ei.1 ei.2.1
  refine EvP.draw (pick_ev hb i.2.1 i.2.2 16 (by omega) (by omega) (by omega)) (fun q eq => ?_)
  unfold OnM at eq
  refine EvP.ite (fun _ => EvP.now hw) (fun _ => EvP.ite (fun _ => ?_) (fun _ => EvP.ite (fun _ => ?_) (fun _ => EvP.ite (fun _ => ?_) (fun _ => EvP.ite (fun _ => ?_) (fun _ => EvP.ite (fun _ => ?_) (fun _ => EvP.ite (fun _ => ?_) (fun _ => EvP.now hw)))))))
  · refine EvP.draw (pick_ev hb q.2.1 q.2.2 4 (by omega) (by omega) (by omega)) (fun r er => EvP.now (put_wf hw _ ⟨wf_in (x := r.1) (by omega) (by omega), hx.2.1, hx.2.2.1, hx.2.2.2⟩))
  · refine EvP.draw (pick_ev hb q.2.1 q.2.2 5 (by omega) (by omega) (by omega)) (fun r er => EvP.now (put_wf hw _ ⟨hx.1, wf_in (x := r.1) (by omega) (by omega), hx.2.2.1, hx.2.2.2⟩))
  · refine EvP.draw (of_ev hb q.2.1 q.2.2 _ (by omega) (by omega) (by decide)) (fun r er => EvP.now (put_wf hw _ hx))
  · refine EvP.draw (pick_ev hb q.2.1 q.2.2 4 (by omega) (by omega) (by omega)) (fun r er => EvP.pos ⟨er.1, er.2.1⟩ (EvP.now (put_wf hw _ ⟨hx.1, hx.2.1, oddFrom_wf hx r.1 er.1 er.2.1, hx.2.2.2⟩)))
  · refine EvP.draw (pick_ev hb q.2.1 q.2.2 2 (by omega) (by omega) (by omega)) (fun r er => EvP.now (put_wf hw _ ⟨hx.1, hx.2.1, hx.2.2.1, wfw _⟩))
  · exact EvP.bind (odd_loop hb 101 q.2.1 q.2.2 l (by omega) (by omega) hl1 (by omega) (by omega) hw) (fun r hr => EvP.now hr)
theorem draw_ev {s0 : List Int} (hb : BytesM s0) : EvP (fun k => spec_DrawCriticalPath.f k s0) (fun r => r.2.all wfCall = true) := by
  have fin : ∀ l : List SC, (∀ x ∈ l, wfX x) → l.all wfCall = true := fun l h => by
    rw [List.all_eq_true]
    intro x hx
    have := h x hx
    unfold wfCall
    rw [this.1, this.2.1, this.2.2.1]
    rfl
  unfold spec_DrawCriticalPath.f
  refine EvP.bind (trace_ev hb 0 0 1 (by omega) (by omega)) (fun t et => ?_)
  obtain ⟨e1, e2, e3, e4⟩ := et
  unfold OnM at e4
  refine EvP.draw (one_ev hb t.2.2.1 t.2.2.2 8 (by omega) (by omega) (by omega)) (fun o eo => ?_)
  unfold OnM at eo
  refine EvP.ite (fun _ => ?_) (fun _ => EvP.now (fin _ e3))
  exact EvP.imp (odd_ev hb o.2.1 o.2.2 t.1 t.2.1 e1 e2 (by omega) (by omega) e3) (fun r h => fin _ h)
end Go.Proofs.Ytalhphclogbpnaa.PFnCritical
/- A trace's critical path, in plain words: that it is there for a good trace; that its parts lie side by side, each in its call, where none of its kids is. -/
namespace Go.Proofs.Ytalhphclogbpnaa.PathPlain
open Go.RowKit Go.Proofs.Ytalhphclogbpnaa.PFnCritical Go.Proofs.YtalhphclogbpnaaW.PrintWords Go.Proofs.YtalhphclogbpnaaW.PrintLast Go.Proofs.Ytalhphclogbpnaa.Evs Go.Proofs.Ytalhphclogbpnaa.SelfPlain
set_option linter.unusedVariables false
/-- The walk back through the calls, as a relation. -/
inductive PathR (l : List SC) : SC → Int → List SP → List SP → Prop
  | done {x m out} (hl : out.length < 5864062014805) (hb : bestV m (kidsM l x.f0) = none) : PathR l x m out (putM x.f0 x.f4 m out)
  | step {x m out b o1 o} (hl : out.length < 5864062014805) (hb : bestV m (kidsM l x.f0) = some b) (h1 : PathR l b (endM b m) (putM x.f0 (endM b m) m out) o1) (h2 : PathR l x b.f4 o1 o) : PathR l x m out o
theorem pathF_ev {l : List SC} {x : SC} {m : Int} {out o : List SP} (h : PathR l x m out o) : EvP (fun k => pathF l k x m out) (fun r => r = o) := by
  induction h with
  | done hl hb =>
    refine EvP.step ?_
    simp only [pathF, if_pos hl, hb]
    exact EvP.now rfl
  | step hl hb _ _ ih1 ih2 =>
    refine EvP.step ?_
    simp only [pathF, if_pos hl, hb]
    refine EvP.bind ih1 (fun q e => ?_)
    subst e
    exact ih2
/-! ### it is there -/
theorem best_mem (m : Int) : ∀ (l : List SC) (acc : Option SC) (b : SC), l.foldl (stepV m) acc = some b → (acc = some b) ∨ (b ∈ l ∧ canM m b = true)
  | [], acc, b, h => .inl h
  | x :: xs, acc, b, h => by
    rcases best_mem m xs _ b h with h1 | ⟨h1, h2⟩
    · unfold stepV at h1
      split at h1
      · rename_i hc
        obtain rfl := Option.some.inj h1
        rw [Bool.and_eq_true] at hc
        exact .inr ⟨List.mem_cons_self .., hc.1⟩
      · exact .inl h1
    · exact .inr ⟨List.mem_cons_of_mem _ h1, h2⟩
theorem best_of {m : Int} {l : List SC} {b : SC} (h : bestV m l = some b) : b ∈ l ∧ b.f4 < b.f5 ∧ b.f4 < m := by
  rcases best_mem m l none b h with h1 | ⟨h1, h2⟩
  · cases h1
  · unfold canM at h2
    rw [Bool.and_eq_true, decide_eq_true_iff, decide_eq_true_iff] at h2
    exact ⟨h1, h2⟩
theorem putM_len (n a b : Int) (out : List SP) (h : a ≤ b) (T : Int) (hT : (out.length : Int) + b ≤ T) : ((putM n a b out).length : Int) + a ≤ T := by
  unfold putM
  by_cases hab : a < b
  · rw [if_pos hab, List.length_append]; simp; omega
  · rw [if_neg hab]; omega
theorem path_there (l : List SC) (hk : Kin l) (hpos : ∀ x ∈ l, 0 ≤ x.f4) : ∀ (d : Nat) (i : Nat) (hi : i < l.length), l.length - i ≤ d → ∀ (e : Nat) (m : Int) (out : List SP), (m - l[i].f4).toNat ≤ e → l[i].f4 ≤ m → (out.length : Int) + m ≤ 1000000000000 → ∃ o, PathR l l[i] m out o ∧ (o.length : Int) + l[i].f4 ≤ 1000000000000 := by
  intro d
  induction d with
  | zero => intro i hi hd; omega
  | succ d ihd =>
    intro i hi hd e
    induction e with
    | zero =>
      intro m out he hm hT
      have h4 := hpos _ (List.getElem_mem hi)
      cases hb : bestV m (kidsM l l[i].f0) with
      | none => exact ⟨_, .done (by omega) hb, putM_len _ _ _ _ hm _ hT⟩
      | some b =>
        obtain ⟨hbm, hb1, hb2⟩ := best_of hb
        unfold kidsM at hbm
        rw [List.mem_filter] at hbm
        obtain ⟨j, hj, rfl⟩ := List.mem_iff_getElem.1 hbm.1
        have := (hk i hi j hj (by simpa using hbm.2)).2
        omega
    | succ e ihe =>
      intro m out he hm hT
      have h4 := hpos _ (List.getElem_mem hi)
      cases hb : bestV m (kidsM l l[i].f0) with
      | none => exact ⟨_, .done (by omega) hb, putM_len _ _ _ _ hm _ hT⟩
      | some b =>
        obtain ⟨hbm, hb1, hb2⟩ := best_of hb
        have hbm' := hbm
        unfold kidsM at hbm
        rw [List.mem_filter] at hbm
        obtain ⟨j, hj, rfl⟩ := List.mem_iff_getElem.1 hbm.1
        obtain ⟨hij, hle⟩ := hk i hi j hj (by simpa using hbm.2)
        have hend : l[j].f4 ≤ endM l[j] m ∧ endM l[j] m ≤ m := by unfold endM; split <;> omega
        obtain ⟨o1, h1, hl1⟩ := ihd j hj (by omega) (endM l[j] m - l[j].f4).toNat (endM l[j] m) (putM l[i].f0 (endM l[j] m) m out) (Nat.le_refl _) hend.1 (putM_len _ _ _ _ hend.2 _ hT)
        obtain ⟨o, h2, hl2⟩ := ihe l[j].f4 o1 (by omega) hle hl1
        exact ⟨o, .step (by omega) hb h1 h2, hl2⟩
/-! ### what the parts are -/
/-- Parts side by side, the last one first: from hi down to lo. -/
def Down : List SP → Int → Int → Prop
  | [], hi, lo => hi = lo
  | s :: r, hi, lo => s.f2 = hi ∧ s.f1 < s.f2 ∧ Down r s.f1 lo
theorem down_append : ∀ {a b : List SP} {hi mid lo : Int}, Down a hi mid → Down b mid lo → Down (a ++ b) hi lo
  | [], b, hi, mid, lo, h1, h2 => by have h1' : hi = mid := h1; rw [h1']; exact h2
  | s :: r, b, hi, mid, lo, h1, h2 => ⟨h1.1, h1.2.1, down_append h1.2.2 h2⟩
/-- A part of a call of l, where none of its kids is. -/
def PartOk (l : List SC) (s : SP) : Prop := ∃ y ∈ l, s.f0 = y.f0 ∧ y.f4 ≤ s.f1 ∧ s.f2 ≤ y.f5 ∧ ∀ k ∈ kidsM l y.f0, ∀ p, s.f1 ≤ p → p < s.f2 → ¬ (k.f4 ≤ p ∧ p < k.f5)
theorem best_fold (m : Int) : ∀ (l : List SC) (acc : Option SC), (∀ k, acc = some k → canM m k = true) →
    match l.foldl (stepV m) acc with
    | none => acc = none ∧ ∀ k ∈ l, canM m k = false
    | some b => canM m b = true ∧ (∀ k, acc = some k → endM k m ≤ endM b m) ∧ ∀ k ∈ l, canM m k = true → endM k m ≤ endM b m
  | [], acc, ha => by
    cases acc with
    | none => exact ⟨rfl, fun k hk => by cases hk⟩
    | some b => exact ⟨ha b rfl, fun k hk => by cases hk; exact Int.le_refl _, fun k hk => by cases hk⟩
  | x :: xs, acc, ha => by
    have ih := best_fold m xs (stepV m acc x) (fun k hk => by
      unfold stepV at hk
      split at hk
      · rename_i hc
        obtain rfl := Option.some.inj hk
        rw [Bool.and_eq_true] at hc
        exact hc.1
      · exact ha k hk)
    show (match xs.foldl (stepV m) (stepV m acc x) with | none => _ | some b => _)
    -- what the step made of x
    have hx : canM m x = true → ∃ c, stepV m acc x = some c ∧ endM x m ≤ endM c m := fun hc => by
      unfold stepV
      by_cases hn : nextV m acc x = true
      · rw [if_pos (by rw [hc, hn]; rfl)]
        exact ⟨x, rfl, Int.le_refl _⟩
      · rw [if_neg (by rw [hc, Bool.true_and]; exact hn)]
        cases acc with
        | none => exact absurd rfl hn
        | some b =>
          refine ⟨b, rfl, ?_⟩
          unfold nextV at hn
          have := of_decide_eq_false (Bool.eq_false_iff.2 hn)
          omega
    have hacc : ∀ k, acc = some k → ∃ c, stepV m acc x = some c ∧ endM k m ≤ endM c m := fun k hk => by
      subst hk
      unfold stepV
      by_cases hc : (canM m x && nextV m (some k) x) = true
      · rw [if_pos hc]
        rw [Bool.and_eq_true] at hc
        exact ⟨x, rfl, of_decide_eq_true hc.2⟩
      · rw [if_neg hc]
        exact ⟨k, rfl, Int.le_refl _⟩
    cases hf : xs.foldl (stepV m) (stepV m acc x) with
    | none =>
      rw [hf] at ih
      have hst := ih.1
      refine ⟨?_, fun k hk => ?_⟩
      · cases acc with
        | none => rfl
        | some b => obtain ⟨c, hc, _⟩ := hacc b rfl; rw [hst] at hc; cases hc
      · rcases List.mem_cons.1 hk with rfl | hk
        · cases he : canM m k with
          | false => rfl
          | true => obtain ⟨c, hc, _⟩ := hx he; rw [hst] at hc; cases hc
        · exact ih.2 k hk
    | some b =>
      rw [hf] at ih
      refine ⟨ih.1, fun k hk => ?_, fun k hk hc => ?_⟩
      · obtain ⟨c, hc, h1⟩ := hacc k hk
        have := ih.2.1 c hc
        omega
      · rcases List.mem_cons.1 hk with rfl | hk
        · obtain ⟨c, hc1, h1⟩ := hx hc
          have := ih.2.1 c hc1
          omega
        · exact ih.2.2 k hk hc
theorem best_none {m : Int} {l : List SC} (h : bestV m l = none) : ∀ k ∈ l, canM m k = false := by
  have := best_fold m l none (fun k hk => by cases hk)
  unfold bestV at h
  rw [h] at this
  exact this.2
theorem best_max {m : Int} {l : List SC} {b : SC} (h : bestV m l = some b) : ∀ k ∈ l, canM m k = true → endM k m ≤ endM b m := by
  have := best_fold m l none (fun k hk => by cases hk)
  unfold bestV at h
  rw [h] at this
  exact this.2.2
theorem endM_min (k : SC) (m : Int) : endM k m = min k.f5 m := by unfold endM; split <;> omega
theorem path_parts (l : List SC) (hk : Kin l) {x : SC} {m : Int} {out o : List SP} (h : PathR l x m out o) : (∃ (i : Nat) (hi : i < l.length), x = l[i]) → x.f4 ≤ m → m ≤ x.f5 → ∃ q, o = out ++ q ∧ Down q m x.f4 ∧ ∀ s ∈ q, PartOk l s := by
  induction h with
  | @done x m out hl hb =>
    intro hx h1 h2
    have hn := best_none hb
    by_cases hm : x.f4 < m
    · refine ⟨[⟨x.f0, x.f4, m⟩], by unfold putM; rw [if_pos hm], ⟨rfl, hm, rfl⟩, fun s hs => ?_⟩
      rw [List.mem_singleton] at hs
      subst hs
      obtain ⟨i, hi, rfl⟩ := hx
      refine ⟨l[i], List.getElem_mem hi, rfl, Int.le_refl _, h2, fun k hkk p hp1 hp2 hc => ?_⟩
      have := hn k hkk
      unfold canM at this
      have hp2' : p < m := hp2
      rw [decide_eq_true (show k.f4 < k.f5 by omega), decide_eq_true (show k.f4 < m by omega)] at this
      cases this
    · refine ⟨[], by unfold putM; rw [if_neg hm, List.append_nil], (by show m = x.f4; omega), fun s hs => by cases hs⟩
  | @step x m out b o1 o hl hb _ _ ih1 ih2 =>
    intro hx h1 h2
    obtain ⟨hbm, hb1, hb2⟩ := best_of hb
    have hmax := best_max hb
    obtain ⟨i, hi, rfl⟩ := hx
    unfold kidsM at hbm
    rw [List.mem_filter] at hbm
    obtain ⟨j, hj, rfl⟩ := List.mem_iff_getElem.1 hbm.1
    obtain ⟨hij, hle⟩ := hk i hi j hj (by simpa using hbm.2)
    have he : l[j].f4 ≤ endM l[j] m ∧ endM l[j] m ≤ l[j].f5 ∧ endM l[j] m ≤ m := by rw [endM_min]; omega
    obtain ⟨q1, e1, d1, p1⟩ := ih1 ⟨j, hj, rfl⟩ he.1 he.2.1
    obtain ⟨q2, e2, d2, p2⟩ := ih2 ⟨i, hi, rfl⟩ hle (by omega)
    by_cases hm : endM l[j] m < m
    · refine ⟨⟨l[i].f0, endM l[j] m, m⟩ :: (q1 ++ q2), ?_, ⟨rfl, hm, down_append d1 d2⟩, fun s hs => ?_⟩
      · rw [e2, e1]
        unfold putM
        rw [if_pos hm]
        simp
      · rcases List.mem_cons.1 hs with rfl | hs
        · refine ⟨l[i], List.getElem_mem hi, rfl, (by show l[i].f4 ≤ endM l[j] m; omega), h2, fun k hkk p hp1 hp2 hc => ?_⟩
          have hp1' : endM l[j] m ≤ p := hp1
          have hp2' : p < m := hp2
          have hcan : canM m k = true := by unfold canM; rw [decide_eq_true (show k.f4 < k.f5 by omega), decide_eq_true (show k.f4 < m by omega)]; rfl
          have := hmax k hkk hcan
          rw [endM_min k m] at this
          omega
        · rcases List.mem_append.1 hs with hs | hs
          · exact p1 s hs
          · exact p2 s hs
    · have em : endM l[j] m = m := by omega
      refine ⟨q1 ++ q2, ?_, ?_, fun s hs => ?_⟩
      · rw [e2, e1]
        unfold putM
        rw [if_neg hm, List.append_assoc]
      · rw [em] at d1
        exact down_append d1 d2
      · rcases List.mem_append.1 hs with hs | hs
        · exact p1 s hs
        · exact p2 s hs
end Go.Proofs.Ytalhphclogbpnaa.PathPlain
/- Proved: FnCritical's law holds for every code. Conditions: none. -/
namespace Go.Proofs.Ytalhphclogbpnaa.Pure
open Go.RowKit Go.Proofs.Ytalhphclogbpnaa.PFnCritical Go.Proofs.YtalhphclogbpnaaW.PrintWords Go.Proofs.YtalhphclogbpnaaW.PrintLast Go.Proofs.Ytalhphclogbpnaa.Evs Go.Proofs.Ytalhphclogbpnaa.SelfPlain Go.Proofs.Ytalhphclogbpnaa.PathPlain
set_option linter.unusedVariables false
set_option linter.unusedSimpArgs false
abbrev rdQ (l : List SP) (i : Int) : SP := rd_T36 l i
theorem rdQ_get (l : List SP) (i : Nat) (h : i < l.length) : rdQ l (i : Int) = l[i] := getD_get _ l i h
theorem wsucc (i : Nat) (h : (i : Int) ≤ 5000000000000) : wrap64 ((i : Int) + 1) = ((i + 1 : Nat) : Int) := by rw [Evs.w64 (by omega) (by omega)]; omega
/-! ### the program's -/
theorem rev_loop (n : Nat) (hn : (n : Int) ≤ 2000000000000) (L : List SP) (hL : L.length = n) : ∀ (d i : Nat) (M : List SP), n ≤ i + i + d → i ≤ n → M.length = n → (∀ p (h : p < n), M[p]? = if p < i ∨ n ≤ p + i then L[n - 1 - p]? else L[p]?) →
    EvP (fun k => impl_PathPart.l0 k M (i : Int) ((n : Int) - 1 - (i : Int))) (fun r => r = L.reverse) := by
  have fin : ∀ (i : Nat) (M : List SP), n ≤ i + i + 1 → M.length = n → (∀ p (h : p < n), M[p]? = if p < i ∨ n ≤ p + i then L[n - 1 - p]? else L[p]?) → M = L.reverse := by
    intro i M hi hM hp
    refine List.ext_getElem? (fun p => ?_)
    rcases Nat.lt_or_ge p n with h | h
    · rw [hp p h, List.getElem?_reverse (by omega), hL]
      split
      · rfl
      · rename_i hc
        rw [show n - 1 - p = p by omega]
    · rw [List.getElem?_eq_none (by omega), List.getElem?_eq_none (by simp; omega)]
  intro d
  induction d with
  | zero =>
    intro i M h1 h2 hM hp
    refine EvP.step ?_
    simp only [impl_PathPart.l0]
    exact EvP.neg (by omega) (EvP.now (fin i M (by omega) hM hp))
  | succ d ih =>
    intro i M h1 h2 hM hp
    refine EvP.step ?_
    simp only [impl_PathPart.l0]
    refine EvP.ite (fun hlt => ?_) (fun hge => EvP.now (fin i M (by omega) hM hp))
    obtain ⟨j, hj⟩ : ∃ j : Nat, (n : Int) - 1 - (i : Int) = (j : Int) := ⟨n - 1 - i, by omega⟩
    have hjn : j = n - 1 - i := by omega
    have hij : i < j := by omega
    rw [hj, wsucc i (by omega), show wrap64 ((j : Int) - 1) = (n : Int) - 1 - ((i + 1 : Nat) : Int) from by rw [Evs.w64 (by omega) (by omega)]; omega]
    have ri : rd_T36 M (i : Int) = M[i]'(by omega) := rdQ_get M i (by omega)
    have rj : rd_T36 M (j : Int) = M[j]'(by omega) := rdQ_get M j (by omega)
    rw [ri, rj, Int.toNat_natCast, Int.toNat_natCast]
    refine EvP.pos (by omega) (EvP.pos (by omega) (EvP.pos (by omega) (EvP.pos (by omega) ?_)))
    refine ih (i + 1) _ (by omega) (by omega) (by rw [List.length_set, List.length_set]; exact hM) (fun p h => ?_)
    have hi' := hp i (by omega)
    have hj' := hp j (by omega)
    rw [if_neg (by omega), List.getElem?_eq_getElem (by omega), List.getElem?_eq_getElem (by omega)] at hi'
    rw [if_neg (by omega), List.getElem?_eq_getElem (by omega), List.getElem?_eq_getElem (by omega)] at hj'
    rw [Option.some.inj hi', Option.some.inj hj']
    by_cases e1 : p = j
    · subst e1
      rw [List.getElem?_set_self (by rw [List.length_set]; omega), if_pos (by omega), show n - 1 - p = i by omega, List.getElem?_eq_getElem (by omega)]
    · rw [List.getElem?_set_ne (by omega)]
      by_cases e2 : p = i
      · subst e2
        rw [List.getElem?_set_self (by omega), if_pos (by omega), show n - 1 - p = j by omega, List.getElem?_eq_getElem (by omega)]
      · rw [List.getElem?_set_ne (by omega), hp p h]
        by_cases e3 : p < i ∨ n ≤ p + i
        · rw [if_pos e3, if_pos (by omega)]
        · rw [if_neg e3, if_neg (by omega)]
theorem implRev_ev (L : List SP) (hL : (L.length : Int) ≤ 2000000000000) : EvP (fun k => impl_PathPart.f k L) (fun r => r = L.reverse) := by
  unfold impl_PathPart.f
  rw [Evs.w64 (by omega) (by omega)]
  have := rev_loop L.length hL L rfl L.length 0 L (by omega) (by omega) rfl (fun p h => by rw [if_neg (by omega)])
  simpa using this
/-! ### the parts, the first one first -/
def Up : List SP → Int → Int → Prop
  | [], lo, hi => lo = hi
  | s :: r, lo, hi => s.f1 = lo ∧ s.f1 < s.f2 ∧ Up r s.f2 hi
theorem up_snoc : ∀ {a : List SP} {s : SP} {lo : Int}, Up a lo s.f1 → s.f1 < s.f2 → Up (a ++ [s]) lo s.f2
  | [], s, lo, h, h2 => ⟨(show lo = s.f1 from h).symm, h2, rfl⟩
  | x :: r, s, lo, h, h2 => ⟨h.1, h.2.1, up_snoc h.2.2 h2⟩
theorem up_rev : ∀ {q : List SP} {hi lo : Int}, Down q hi lo → Up q.reverse lo hi
  | [], hi, lo, h => (show hi = lo from h).symm
  | s :: r, hi, lo, h => by
    rw [List.reverse_cons]
    have := up_snoc (up_rev h.2.2) h.2.1
    rw [h.1] at this
    exact this
theorem up_len : ∀ {q : List SP} {lo hi : Int}, Up q lo hi → lo + (q.length : Int) ≤ hi
  | [], lo, hi, h => by have h' : lo = hi := h; simp; omega
  | s :: r, lo, hi, h => by
    have := up_len h.2.2
    have := h.1
    have := h.2.1
    simp only [List.length_cons]
    omega
/-- What the parts of one call come to. -/
def sumF (n : Int) : List SP → Int
  | [] => 0
  | s :: r => (if s.f0 = n then s.f2 - s.f1 else 0) + sumF n r
theorem sumF_app (n : Int) : ∀ (a b : List SP), sumF n (a ++ b) = sumF n a + sumF n b
  | [], b => by simp [sumF]
  | s :: r, b => by simp only [List.cons_append, sumF, sumF_app n r b]; omega
theorem sumF_nn (n : Int) : ∀ (a : List SP), (∀ s ∈ a, s.f1 < s.f2) → 0 ≤ sumF n a
  | [], _ => by simp [sumF]
  | s :: r, h => by
    have h1 := sumF_nn n r (fun x hx => h x (List.mem_cons_of_mem _ hx))
    have h2 := h s (List.mem_cons_self ..)
    simp only [sumF]
    split <;> omega
theorem up_pos : ∀ {q : List SP} {lo hi : Int}, Up q lo hi → ∀ s ∈ q, s.f1 < s.f2
  | [], _, _, _, s, hs => by cases hs
  | x :: r, lo, hi, h, s, hs => by
    rcases List.mem_cons.1 hs with rfl | hs
    · exact h.2.1
    · exact up_pos h.2.2 s hs
theorem cntN_nn (p : Int → Bool) (a : Int) : ∀ n : Nat, 0 ≤ cntN p a n ∧ cntN p a n ≤ n
  | 0 => by simp [cntN]
  | n + 1 => by
    have := cntN_nn p a n
    rw [cntN]
    split <;> omega
theorem cnt_nn (p : Int → Bool) (a b : Int) : 0 ≤ cnt p a b := (cntN_nn p a _).1
theorem cnt_le {p : Int → Bool} {a b : Int} (h : a ≤ b) : cnt p a b ≤ b - a := by
  have := (cntN_nn p a (b - a).toNat).2
  unfold cnt
  omega
/-- A moment in the call, where none of its kids is. -/
def ownB (x : SC) (ks : List SC) (p : Int) : Bool := freeB ks p && (decide (x.f4 ≤ p) && decide (p < x.f5))
theorem sum_cnt (x : SC) (ks : List SC) : ∀ (q : List SP) (lo hi : Int), Up q lo hi → (∀ s ∈ q, s.f0 = x.f0 → x.f4 ≤ s.f1 ∧ s.f2 ≤ x.f5 ∧ ∀ k ∈ ks, ∀ p, s.f1 ≤ p → p < s.f2 → ¬ (k.f4 ≤ p ∧ p < k.f5)) → sumF x.f0 q ≤ cnt (ownB x ks) lo hi
  | [], lo, hi, h, _ => by have := cnt_nn (ownB x ks) lo hi; simpa [sumF] using this
  | s :: r, lo, hi, h, hp => by
    have ih := sum_cnt x ks r s.f2 hi h.2.2 (fun y hy => hp y (List.mem_cons_of_mem _ hy))
    have hle := up_len h.2.2
    obtain ⟨e, h1, h2⟩ := h
    subst e
    rw [cnt_split (ownB x ks) (show s.f1 ≤ s.f2 by omega) (show s.f2 ≤ hi by omega)]
    simp only [sumF]
    by_cases he : s.f0 = x.f0
    · rw [if_pos he]
      obtain ⟨a1, a2, a3⟩ := hp s (List.mem_cons_self ..) he
      rw [cnt_all (p := ownB x ks) (a := s.f1) (b := s.f2) (by omega) (fun p b1 b2 => by
        unfold ownB
        rw [free_of (fun k hk => by have := a3 k hk p b1 b2; omega), decide_eq_true (show x.f4 ≤ p by omega), decide_eq_true (show p < x.f5 by omega)]
        rfl)]
      omega
    · rw [if_neg he]
      have := cnt_nn (ownB x ks) s.f1 s.f2
      omega
theorem cnt_in (x : SC) (ks : List SC) (hx : x.f4 ≤ x.f5) (lo hi : Int) (hl : lo ≤ hi) : cnt (ownB x ks) lo hi ≤ selfM x ks := by
  have e1 := cnt_split (ownB x ks) (show min lo x.f4 ≤ lo by omega) (show lo ≤ max hi x.f5 by omega)
  have e2 := cnt_split (ownB x ks) (show lo ≤ hi by omega) (show hi ≤ max hi x.f5 by omega)
  have e3 := cnt_split (ownB x ks) (show min lo x.f4 ≤ x.f4 by omega) (show x.f4 ≤ max hi x.f5 by omega)
  have e4 := cnt_split (ownB x ks) (show x.f4 ≤ x.f5 by omega) (show x.f5 ≤ max hi x.f5 by omega)
  have n1 := cnt_nn (ownB x ks) (min lo x.f4) lo
  have n2 := cnt_nn (ownB x ks) hi (max hi x.f5)
  have z1 : cnt (ownB x ks) (min lo x.f4) x.f4 = 0 := cnt_none (fun p h1 h2 => by unfold ownB; rw [decide_eq_false (show ¬ x.f4 ≤ p by omega)]; simp)
  have z2 : cnt (ownB x ks) x.f5 (max hi x.f5) = 0 := cnt_none (fun p h1 h2 => by unfold ownB; rw [decide_eq_false (show ¬ p < x.f5 by omega)]; simp)
  have z3 : cnt (ownB x ks) x.f4 x.f5 = selfM x ks := cnt_congr (fun p h1 h2 => by unfold ownB; rw [decide_eq_true h1, decide_eq_true h2]; simp)
  omega
/-! ### the law's loops -/
abbrev rdP (l : List SP) (i : Int) : SP := rd_T36 l i
theorem rdP_get (l : List SP) (i : Nat) (h : i < l.length) : rdP l (i : Int) = l[i] := getD_get _ l i h
theorem zInts_loop (l : List Int) (hl : l.length ≤ 100000) : ∀ (d i : Nat), i + d = l.length → EvP (fun k => laws_zInts.l0 k l l (l.length : Int) (i : Int)) (fun r => r = true)
  | 0, i, h => by
    refine EvP.step ?_
    simp only [laws_zInts.l0]
    exact EvP.neg (by omega) (EvP.now rfl)
  | d + 1, i, h => by
    refine EvP.step ?_
    simp only [laws_zInts.l0, wsucc i (by omega), if_true]
    have f1 : (i : Int) < (l.length : Int) := by omega
    first
    | exact EvP.pos f1 (EvP.pos (by omega) (zInts_loop l hl d (i + 1) (by omega)))
    | exact EvP.pos f1 (EvP.pos (by omega) (EvP.pos f1 (zInts_loop l hl d (i + 1) (by omega))))
    | exact EvP.pos f1 (EvP.pos (by omega) (EvP.pos f1 (EvP.pos f1 (zInts_loop l hl d (i + 1) (by omega)))))
theorem zInts_ev (l : List Int) (hl : l.length ≤ 100000) : EvP (fun k => laws_zInts.f k l l) (fun r => r = true) := by
  unfold laws_zInts.f
  exact EvP.pos rfl (zInts_loop l hl l.length 0 (by omega))
theorem l1_ev {Q : Bool → Prop} (self : List Int) (l : List SC) (id : Int) (hl : l.length ≤ 100) (q : List SP) (i : Nat) (s : SP) (hs : s.f1 < s.f2) (j0 : Nat) (hj0 : j0 < l.length) (he : l[j0].f0 = s.f0) (hu : ∀ (i j : Nat) (hi : i < l.length) (hj : j < l.length), l[i].f0 = l[j].f0 → i = j)
    (h4 : l[j0].f4 ≤ s.f1) (h5 : s.f2 ≤ l[j0].f5) (M0 M1 : List Int) (hM0 : M0.length = l.length) (hM1 : M1 = M0.set j0 (wrap64 (rd M0 (j0 : Int) + wrap64 (s.f2 - s.f1))))
    (hc : EvP (fun k => laws_FnCritical.l0 k self s.f2 M1 q (q.length : Int) (wrap64 ((i : Int) + 1)) id l) Q) :
    ∀ (d j : Nat) (M : List Int) (b : Bool), j + d = l.length → (j ≤ j0 → M = M0 ∧ b = false) → (j0 < j → M = M1 ∧ b = true) → EvP (fun k => laws_FnCritical.l1 k self s.f1 M b q (q.length : Int) (i : Int) l (l.length : Int) (j : Int) id l s.f0 s.f1 s.f2) Q
  | 0, j, M, b, h, _, h2 => by
    obtain ⟨e1, e2⟩ := h2 (by omega)
    subst e1
    subst e2
    refine EvP.step ?_
    simp only [laws_FnCritical.l1]
    exact EvP.neg (by omega) (EvP.pos (by first | rfl | trivial) (EvP.pos (by first | rfl | trivial) (EvP.neg (by omega) hc)))
  | d + 1, j, M, b, h, h1, h2 => by
    have hj : j < l.length := by omega
    have hr : rd_T34 l (j : Int) = l[j] := rdK_get l j hj
    have hML : M.length = l.length := by
      by_cases hc : j ≤ j0
      · rw [(h1 hc).1]; exact hM0
      · rw [(h2 (by omega)).1, hM1, List.length_set]; exact hM0
    refine EvP.step ?_
    simp only [laws_FnCritical.l1, hr, wsucc j (by omega), Int.toNat_natCast]
    refine EvP.pos (by omega) (EvP.pos (by omega) (EvP.pos (by omega) ?_))
    by_cases e : j = j0
    · subst e
      obtain ⟨e1, e2⟩ := h1 (Nat.le_refl _)
      subst e1
      refine EvP.pos he (EvP.pos (by omega) (EvP.pos (by omega) ?_))
      rw [← hM1]
      refine l1_ev self l id hl q i s hs j hj0 he hu h4 h5 M M1 hM0 hM1 hc d (j + 1) M1 _ (by omega) (fun hh => by omega) (fun _ => ⟨rfl, decide_eq_true h5⟩)
    · refine EvP.neg (fun hh => e (hu j j0 hj hj0 (by rw [hh, he]))) ?_
      refine l1_ev self l id hl q i s hs j0 hj0 he hu h4 h5 M0 M1 hM0 hM1 hc d (j + 1) M b (by omega) (fun hh => h1 (by omega)) (fun hh => h2 (by omega))
theorem l0_law {Q : Bool → Prop} (self : List Int) (l : List SC) (id : Int) (hl : l.length ≤ 100) (hg : GoodC l) (q : List SP) (hi : Int) (hhi : hi ≤ 1000000000000) (hup : ∃ lo, 0 ≤ lo ∧ Up q lo hi) (hok : ∀ s ∈ q, PartOk l s)
    (hsum : ∀ x ∈ l, sumF x.f0 q ≤ 1000000000000)
    (hc : EvP (fun k => laws_FnCritical.l2 k self hi (l.map fun x => sumF x.f0 q) l (l.length : Int) 0 id l) Q) :
    ∀ (d i : Nat) (a : Int), i + d = q.length → 0 ≤ a → Up (q.drop i) a hi → EvP (fun k => laws_FnCritical.l0 k self a (l.map fun x => sumF x.f0 (q.take i)) q (q.length : Int) (i : Int) id l) Q
  | 0, i, a, h, ha, hu => by
    have e : i = q.length := by omega
    subst e
    rw [List.drop_length] at hu
    have hu' : a = hi := hu
    subst hu'
    rw [List.take_length]
    refine EvP.step ?_
    simp only [laws_FnCritical.l0]
    exact EvP.neg (by omega) hc
  | d + 1, i, a, h, ha, hu => by
    have hlt : i < q.length := by omega
    obtain ⟨lo, hlo, hUp⟩ := hup
    have hlen := up_len hUp
    have hr : rd_T36 q (i : Int) = q[i] := rdP_get q i hlt
    have hmem : q[i] ∈ q := List.getElem_mem hlt
    rw [List.drop_eq_getElem_cons hlt] at hu
    obtain ⟨e1, e2, e3⟩ := hu
    have hle := up_len e3
    obtain ⟨y, hy, y1, y2, y3, _⟩ := hok _ hmem
    obtain ⟨j0, hj0, rfl⟩ := List.mem_iff_getElem.1 hy
    have hpos := up_pos hUp
    have part : ∀ x ∈ l, ∀ m : Nat, 0 ≤ sumF x.f0 (q.take m) ∧ sumF x.f0 (q.take m) ≤ 1000000000000 := fun x hx m => by
      have h1 := sumF_app x.f0 (q.take m) (q.drop m)
      rw [List.take_append_drop] at h1
      have h2 := sumF_nn x.f0 (q.drop m) (fun s hs => hpos s (List.mem_of_mem_drop hs))
      have h3 := sumF_nn x.f0 (q.take m) (fun s hs => hpos s (List.mem_of_mem_take hs))
      have := hsum x hx
      omega
    refine EvP.step ?_
    simp only [laws_FnCritical.l0, hr]
    refine EvP.pos (by omega) (EvP.pos (by omega) (EvP.pos (by omega) ?_))
    have hsn : ∀ n : Int, sumF n (q.take (i + 1)) = sumF n (q.take i) + (if q[i].f0 = n then q[i].f2 - q[i].f1 else 0) := fun n => by
      rw [List.take_succ_eq_append_getElem hlt, sumF_app]
      simp only [sumF]
      omega
    have hcont := l0_law self l id hl hg q hi hhi ⟨lo, hlo, hUp⟩ hok hsum hc d (i + 1) q[i].f2 (by omega) (by omega) e3
    rw [← wsucc i (by omega)] at hcont
    subst e1
    refine l1_ev self l id hl q i q[i] e2 j0 hj0 y1.symm hg.uniq y2 y3 _ _ (by rw [List.length_map]) ?_ hcont l.length 0 _ false (by omega) (fun _ => ⟨rfl, rfl⟩) (fun hh => by omega)
    have ej0 := part l[j0] (List.getElem_mem hj0) i
    have ej1 := part l[j0] (List.getElem_mem hj0) (i + 1)
    rw [hsn, if_pos y1] at ej1
    refine List.ext_getElem (by simp) (fun n h1 h2 => ?_)
    have hn : n < l.length := by simpa using h1
    rw [List.getElem_map, hsn]
    by_cases en : n = j0
    · subst en
      rw [List.getElem_set_self, if_pos y1, rd_get _ _ (by simpa using hn), List.getElem_map, Evs.w64 (x := q[i].f2 - q[i].f1) (by omega) (by omega), Evs.w64 (by omega) (by omega)]
    · rw [List.getElem_set_ne (fun hh => en hh.symm), List.getElem_map, if_neg (fun hh => en (hg.uniq n j0 hn hj0 (by rw [← hh, y1])))]
      omega
theorem l2_ev (l : List SC) (id : Int) (hl : l.length ≤ 100) (h0 : 0 < l.length) (F G : SC → Int) (hF : ∀ x ∈ l, F x ≤ G x ∧ G x ≤ x.f5 - x.f4) (ht : ∀ x ∈ l, 0 ≤ x.f4 ∧ x.f4 ≤ x.f5 ∧ x.f5 ≤ 1000000000000) :
    ∀ (d j : Nat), j + d = l.length → EvP (fun k => laws_FnCritical.l2 k (l.map G) l[0].f5 (l.map F) l (l.length : Int) (j : Int) id l) (fun r => r = true)
  | 0, j, h => by
    have hr : rd_T34 l 0 = l[0] := rdK_get l 0 h0
    refine EvP.step ?_
    simp only [laws_FnCritical.l2, hr]
    exact EvP.neg (by omega) (EvP.pos (by omega) (EvP.now (by simp)))
  | d + 1, j, h => by
    have hj : j < l.length := by omega
    have hr : rd_T34 l (j : Int) = l[j] := rdK_get l j hj
    have hm := List.getElem_mem hj
    have hf := hF _ hm
    have htt := ht _ hm
    have r1 : rd (l.map F) (j : Int) = F l[j] := by rw [rd_get _ _ (by simpa using hj), List.getElem_map]
    have r2 : rd (l.map G) (j : Int) = G l[j] := by rw [rd_get _ _ (by simpa using hj), List.getElem_map]
    refine EvP.step ?_
    simp only [laws_FnCritical.l2, hr, r1, r2, wsucc j (by omega), List.length_map]
    rw [show wrap64 (l[j].f5 - l[j].f4) = l[j].f5 - l[j].f4 from Evs.w64 (by omega) (by omega)]
    first
    | exact EvP.pos (by omega) (EvP.pos (by omega) (EvP.pos (by omega) (EvP.pos (by omega) (EvP.pos (by omega) (EvP.neg (by omega) (EvP.neg (by omega) (l2_ev l id hl h0 F G hF ht d (j + 1) (by omega))))))))
    | exact EvP.pos (by omega) (EvP.pos (by omega) (EvP.neg (by omega) (EvP.neg (by omega) (l2_ev l id hl h0 F G hF ht d (j + 1) (by omega)))))
theorem FnCritical : laws_FnCritical.Pure := by
  intro l0 h1 h2 hw
  have hb : BytesM l0 := by
    intro x hx
    have := hw x hx
    simpa [Lit.wf, IntKind.min, IntKind.max, IntKind.signed, IntKind.bits] using this
  refine EvP.rounds (g := fun k => laws_FnCritical.f k l0) ?_
  unfold laws_FnCritical.f
  refine EvP.ite (fun _ => EvP.now rfl) (fun hlen => ?_)
  refine EvP.bind (draw_ev hb) (fun t ht => ?_)
  obtain ⟨a0, l⟩ := t
  have hwf : l.all wfCall = true := ht
  dsimp only
  have hi : impl_GoodTrace.f a0 l = some (goodTraceB a0 l) := by unfold impl_GoodTrace.f; rw [if_pos hwf]
  cases hg : goodTraceB a0 l with
  | false =>
    have c1 : ∀ k, impl_CriticalPath.f k a0 l = some [] := fun k => by unfold impl_CriticalPath.f; rw [hi, hg]; rfl
    have c2 : ∀ k, impl_SelfTimes.f k a0 l = some [] := fun k => by unfold impl_SelfTimes.f; rw [hi, hg]; rfl
    have c3 : spec_GoodTrace.f a0 l = some false := by unfold spec_GoodTrace.f; rw [hg]
    simp only [c1, c2, c3, Option.bind_some]
    exact EvP.neg (by decide) (EvP.pos rfl (EvP.now rfl))
  | true =>
    obtain ⟨hgc, h0, hl⟩ := good_of hg
    have h00 : rd_T34 l 0 = l[0] := rdK_get l 0 h0
    have htt := hgc.top l[0] (List.getElem_mem h0)
    have htop : ∀ x ∈ l, 0 ≤ x.f4 ∧ x.f4 ≤ x.f5 ∧ x.f5 ≤ 1000000000000 := fun x hx => ⟨hgc.pos x hx, hgc.top x hx⟩
    have hall : l.all okCall = true := by
      rw [List.all_eq_true]
      intro x hx
      have := htop x hx
      unfold okCall
      simp [this.1, this.2.1, this.2.2]
    obtain ⟨o, hp, ho⟩ := path_there l hgc.kin hgc.pos (l.length - 0) 0 h0 (Nat.le_refl _) _ l[0].f5 [] (Nat.le_refl _) htt.1 (by simp; omega)
    have hx4 := hgc.pos l[0] (List.getElem_mem h0)
    obtain ⟨q, hq, hd, hpo⟩ := path_parts l hgc.kin hp ⟨0, h0, rfl⟩ htt.1 (Int.le_refl _)
    rw [List.nil_append] at hq
    subst hq
    have hU := up_rev hd
    refine EvP.bind (P := fun r => r = o.reverse) ?_ (fun p ep => ?_)
    · unfold impl_CriticalPath.f
      rw [hi, hg]
      refine EvP.bind (EvP.now rfl) (fun t e => ?_)
      subst e
      refine EvP.pos rfl (EvP.pos ⟨h0, by omega⟩ (EvP.bind (P := fun r => r = o) ?_ (fun q e => ?_)))
      · rw [h00]
        exact pathF_ev hp
      · subst e
        exact implRev_ev q (by omega)
    subst ep
    have c2 : ∀ k, impl_SelfTimes.f k a0 l = some (l.map fun x => selfM x (kidsM l x.f0)) := fun k => by unfold impl_SelfTimes.f; rw [hi, hg, Option.bind_some, if_pos rfl, if_pos ⟨hl, hall⟩]
    have c3 : spec_GoodTrace.f a0 l = some true := by unfold spec_GoodTrace.f; rw [hg]
    simp only [c2, c3, Option.bind_some]
    refine EvP.pos (by first | rfl | trivial) (EvP.bind (P := fun r => r = l.map fun x => selfM x (kidsM l x.f0)) ?_ (fun s es => ?_))
    · unfold spec_SelfTimes.f
      rw [c3]
      exact EvP.bind (EvP.now rfl) (fun t e => by subst e; exact EvP.pos rfl (l0_ev hl htop l.length 0 (by omega) (Nat.zero_le _) [] rfl))
    subst es
    refine EvP.bind (zInts_ev _ (by rw [List.length_map]; omega)) (fun b eb => ?_)
    subst eb
    have hok : ∀ s ∈ o.reverse, PartOk l s := fun s hs => hpo s (List.mem_reverse.1 hs)
    have hsum : ∀ x ∈ l, sumF x.f0 o.reverse ≤ selfM x (kidsM l x.f0) ∧ selfM x (kidsM l x.f0) ≤ x.f5 - x.f4 := fun x hx => by
      have ht := htop x hx
      refine ⟨Int.le_trans (sum_cnt x (kidsM l x.f0) o.reverse _ _ hU (fun s hs he => ?_)) (cnt_in x _ ht.2.1 _ _ htt.1), cnt_le ht.2.1⟩
      obtain ⟨y, hy, y1, y2, y3, y4⟩ := hok s hs
      obtain ⟨i, hi', rfl⟩ := List.mem_iff_getElem.1 hx
      obtain ⟨j, hj', rfl⟩ := List.mem_iff_getElem.1 hy
      have e := hgc.uniq i j hi' hj' (by rw [← he, y1])
      subst e
      exact ⟨y2, y3, y4⟩
    refine EvP.pos rfl (EvP.pos (by omega) (EvP.pos (by omega) (EvP.pos (by omega) ?_)))
    rw [h00]
    have hz : List.replicate ((l.length : Int) : Int).toNat (0 : Int) = l.map fun x => sumF x.f0 (o.reverse.take 0) := by
      rw [Int.toNat_natCast]
      refine List.ext_getElem (by simp) (fun n h1 h2 => ?_)
      rw [List.getElem_replicate, List.getElem_map]
      rfl
    rw [hz]
    refine l0_law (l.map fun x => selfM x (kidsM l x.f0)) l a0 hl hgc o.reverse l[0].f5 htt.2 ⟨_, hx4, hU⟩ hok (fun x hx => by have := hsum x hx; have := htop x hx; omega) ?_ o.reverse.length 0 l[0].f4 (by omega) hx4 hU
    exact l2_ev l a0 hl h0 (fun x => sumF x.f0 o.reverse) (fun x => selfM x (kidsM l x.f0)) hsum htop l.length 0 (by omega)
end Go.Proofs.Ytalhphclogbpnaa.Pure
