/- What the draws of samples tell: that they end, how many samples there are at most. -/
import Derived.Test.YtedfbdholjjflaaEv
import Derived.Test.YtedfbdholjjflaaHDraw
import Derived.Test.YtedfbdholjjflaaHSampleAt
import Derived.Laws.Bits64b
namespace Go.Proofs.Ytedfbdholjjflaa.PFnStrange
open Go.RowKit Go.Proofs.YtedfbdholjjflaaW.PrintWords Go.Proofs.YtedfbdholjjflaaW.PrintLast Go.Proofs.Ytedfbdholjjflaa.Evs
set_option linter.unusedVariables false
set_option linter.unusedSimpArgs false
def BytesM (l : List Int) : Prop := ∀ x ∈ l, 0 ≤ x ∧ x ≤ 255
/-- What a draw leaves: the place goes on by at most c. -/
def OnM (a c : Int) (b : Int) : Prop := a ≤ b ∧ b ≤ a + c
theorem and255 (x : Int) : 0 ≤ wrap64 (Go.bits .and .u64 (IntKind.u64.wrap x / 1099511627776) 255) ∧ wrap64 (Go.bits .and .u64 (IntKind.u64.wrap x / 1099511627776) 255) ≤ 255 := by
  rw [IntKind.wrap_u64]
  have h0 : 0 ≤ x % 18446744073709551616 / 1099511627776 := by omega
  have h1 : x % 18446744073709551616 / 1099511627776 < 18446744073709551616 := by omega
  generalize x % 18446744073709551616 / 1099511627776 = y at h0 h1
  obtain ⟨n, rfl⟩ := Int.eq_ofNat_of_zero_le h0
  have h2 := bits_and_u64_nat n 255 (by omega) (by omega)
  have h3 : n &&& 255 ≤ 255 := Nat.and_le_right
  rw [show ((255 : Nat) : Int) = (255 : Int) from rfl] at h2
  rw [h2, Evs.w64 (by omega) (by omega)]
  omega
theorem rd_byte {l : List Int} (hl : BytesM l) (i : Int) (h0 : 0 ≤ i) (h : i < (l.length : Int)) : 0 ≤ rd l i ∧ rd l i ≤ 255 := by
  obtain ⟨n, rfl⟩ := Int.eq_ofNat_of_zero_le h0
  have h' : n < l.length := by omega
  rw [show rd l (n : Int) = l[n] from rd_get l n h']
  exact hl _ (List.getElem_mem h')
theorem next_ev {l : List Int} (hl : BytesM l) (a s : Int) (h0 : 0 ≤ a) (h1 : a ≤ 4000000000000000000) : ∃ r, spec_l1Cur_next.f l a s = some r ∧ 0 ≤ r.1 ∧ r.1 ≤ 255 ∧ OnM a 1 r.2.1 := by
  unfold spec_l1Cur_next.f
  rw [show wrap64 (a + 1) = a + 1 from Evs.w64 (by omega) (by omega)]
  by_cases h : a < (l.length : Int)
  · rw [if_pos h, if_pos h0, if_pos (by omega)]
    have hb := rd_byte hl a h0 h
    exact ⟨_, rfl, by rw [show wrap64 (rd l a) = rd l a from Evs.w64 (by omega) (by omega)]; exact hb.1, by rw [show wrap64 (rd l a) = rd l a from Evs.w64 (by omega) (by omega)]; exact hb.2, by show a ≤ a + 1; omega, by show a + 1 ≤ a + 1; omega⟩
  · rw [if_neg h, if_neg (by omega)]
    exact ⟨_, rfl, (and255 _).1, (and255 _).2, by show a ≤ a + 1; omega, by show a + 1 ≤ a + 1; omega⟩
theorem tmod_in {x n : Int} (h : 0 ≤ x) (hn : 0 < n) : 0 ≤ Int.tmod x n ∧ Int.tmod x n < n := by
  rw [Int.tmod_eq_emod_of_nonneg h]
  exact ⟨Int.emod_nonneg _ (by omega), Int.emod_lt_of_pos _ hn⟩
theorem pick_ev {l : List Int} (hl : BytesM l) (a s n : Int) (h0 : 0 ≤ a) (h1 : a ≤ 3900000000000000000) (hn : 1 ≤ n) : ∃ r, spec_l1Cur_pick.f l a s n = some r ∧ 0 ≤ r.1 ∧ r.1 < n ∧ OnM a 2 r.2.1 := by
  unfold spec_l1Cur_pick.f
  by_cases h : n ≤ 1
  · rw [if_pos h]
    exact ⟨_, rfl, by show (0 : Int) ≤ 0; omega, by show (0 : Int) < n; omega, by show a ≤ a; omega, by show a ≤ a + 2; omega⟩
  · rw [if_neg h]
    obtain ⟨⟨x, b, t⟩, e, hx0, hx1, hb⟩ := next_ev hl a s h0 (by omega)
    rw [e]
    unfold OnM at hb
    simp only [Option.bind_some] at *
    by_cases hg : n > 200
    · rw [if_pos hg]
      obtain ⟨⟨x2, b2, t2⟩, e2, hy0, hy1, hb2⟩ := next_ev hl b t (by omega) (by omega)
      rw [e2]
      unfold OnM at hb2
      simp only [Option.bind_some] at *
      rw [if_neg (by omega), show wrap64 (x * 256) = x * 256 from Evs.w64 (by omega) (by omega), show wrap64 (x * 256 + x2) = x * 256 + x2 from Evs.w64 (by omega) (by omega)]
      have := tmod_in (x := x * 256 + x2) (n := n) (by omega) (by omega)
      exact ⟨_, rfl, this.1, this.2, by show a ≤ b2; omega, by show b2 ≤ a + 2; omega⟩
    · rw [if_neg hg, if_neg (by omega)]
      have := tmod_in (x := x) (n := n) (by omega) (by omega)
      exact ⟨_, rfl, this.1, this.2, by show a ≤ b; omega, by show b ≤ a + 2; omega⟩
theorem one_ev {l : List Int} (hl : BytesM l) (a s n : Int) (h0 : 0 ≤ a) (h1 : a ≤ 3900000000000000000) (hn : 1 ≤ n) : ∃ r, spec_l1Cur_one.f l a s n = some r ∧ OnM a 2 r.2.1 := by
  unfold spec_l1Cur_one.f
  obtain ⟨⟨x, b, t⟩, e, hx0, hx1, hb⟩ := pick_ev hl a s n h0 h1 hn
  rw [e]
  exact ⟨_, rfl, hb⟩
theorem of2_ev {l : List Int} (hl : BytesM l) (a s x y : Int) (h0 : 0 ≤ a) (h1 : a ≤ 3900000000000000000) : ∃ r, spec_l1Cur_of2.f l a s x y = some r ∧ OnM a 2 r.2.1 := by
  unfold spec_l1Cur_of2.f
  obtain ⟨⟨c, b, t⟩, e, hb⟩ := one_ev hl a s 2 h0 h1 (by omega)
  rw [e]
  simp only [Option.bind_some]
  by_cases hc : c = true
  · rw [if_pos hc]
    exact ⟨_, rfl, hb⟩
  · rw [if_neg hc]
    exact ⟨_, rfl, hb⟩
theorem EvP.draw {α β : Type} {o : Option α} {f : Nat → α → Option β} {Q : β → Prop} {P : α → Prop} (h : ∃ r, o = some r ∧ P r) (k : ∀ r, P r → EvP (fun n => f n r) Q) : EvP (fun n => o.bind (f n)) Q := by
  obtain ⟨r, rfl, hp⟩ := h
  exact k r hp
theorem wide_loop {l : List Int} (hl : BytesM l) : ∀ (d : Nat) (x i a s : Int), i + d = 8 → 0 ≤ i → 0 ≤ a → a + d ≤ 3900000000000000000 → EvP (fun k => spec_l1Cur_wide.l0 k x i l a s) (fun r => OnM a d r.2.1) := by
  intro d
  induction d with
  | zero =>
    intro x i a s h hi h0 h1
    refine EvP.step ?_
    simp only [spec_l1Cur_wide.l0]
    exact EvP.neg (by omega) (EvP.now ⟨by show a ≤ a; omega, by show a ≤ a + _; omega⟩)
  | succ d ih =>
    intro x i a s h hi h0 h1
    refine EvP.step ?_
    simp only [spec_l1Cur_wide.l0]
    refine EvP.pos (by omega) (EvP.draw (next_ev hl a s h0 (by omega)) (fun r hr => ?_))
    obtain ⟨_, _, hr⟩ := hr
    unfold OnM at hr
    rw [show wrap64 (i + 1) = i + 1 from Evs.w64 (by omega) (by omega)]
    refine EvP.imp (ih _ (i + 1) r.2.1 r.2.2 (by omega) (by omega) (by omega) (by omega)) (fun q hq => ?_)
    unfold OnM at hq ⊢
    omega
theorem wide_ev {l : List Int} (hl : BytesM l) (a s : Int) (h0 : 0 ≤ a) (h1 : a ≤ 3800000000000000000) : EvP (fun k => spec_l1Cur_wide.f k l a s) (fun r => OnM a 8 r.2.1) := by
  unfold spec_l1Cur_wide.f
  exact wide_loop hl 8 0 0 a s (by omega) (by omega) h0 (by omega)
theorem u64_pos (x : Int) : 0 ≤ IntKind.u64.wrap x := by
  rw [IntKind.wrap_u64]
  omega
theorem sized_ev {l : List Int} (hl : BytesM l) (a s : Int) (h0 : 0 ≤ a) (h1 : a ≤ 3700000000000000000) : EvP (fun k => spec_l1Cur_sized.f k l a s) (fun r => OnM a 18 r.2.1) := by
  unfold spec_l1Cur_sized.f
  refine EvP.draw (pick_ev hl a s 5 h0 (by omega) (by omega)) (fun r1 hr1 => ?_)
  obtain ⟨_, _, hr1⟩ := hr1
  unfold OnM at hr1
  refine EvP.draw (pick_ev hl r1.2.1 r1.2.2 8 (by omega) (by omega) (by omega)) (fun r2 hr2 => ?_)
  obtain ⟨_, _, hr2⟩ := hr2
  unfold OnM at hr2
  have last : ∀ (b t x y : Int), a ≤ b → b ≤ a + 16 → EvP (fun _ : Nat => (spec_l1Cur_one.f l b t 3).bind fun q => (if q.1 = true then (some (x, q.2.1, q.2.2)) else (some (y, q.2.1, q.2.2)))) (fun r => OnM a 18 r.2.1) := by
    intro b t x y hb0 hb1
    refine EvP.draw (one_ev hl b t 3 (by omega) (by omega) (by omega)) (fun q hq => ?_)
    unfold OnM at hq
    exact EvP.ite (fun _ => EvP.now ⟨by show a ≤ q.2.1; omega, by show q.2.1 ≤ a + 18; omega⟩) (fun _ => EvP.now ⟨by show a ≤ q.2.1; omega, by show q.2.1 ≤ a + 18; omega⟩)
  refine EvP.ite (fun _ => ?_) (fun _ => EvP.ite (fun _ => ?_) (fun _ => EvP.ite (fun _ => ?_) (fun _ => EvP.ite (fun _ => ?_) (fun _ => ?_))))
  · refine EvP.draw (pick_ev hl r2.2.1 r2.2.2 300 (by omega) (by omega) (by omega)) (fun r3 hr3 => ?_)
    obtain ⟨_, _, hr3⟩ := hr3
    unfold OnM at hr3
    exact last _ _ _ _ (by omega) (by omega)
  · refine EvP.bind (wide_ev hl r2.2.1 r2.2.2 (by omega) (by omega)) (fun r3 hr3 => ?_)
    unfold OnM at hr3
    refine EvP.draw (pick_ev hl r3.2.1 r3.2.2 64 (by omega) (by omega) (by omega)) (fun r4 hr4 => ?_)
    obtain ⟨_, _, hr4⟩ := hr4
    unfold OnM at hr4
    exact EvP.pos (u64_pos _) (last _ _ _ _ (by omega) (by omega))
  · refine EvP.draw (pick_ev hl r2.2.1 r2.2.2 64 (by omega) (by omega) (by omega)) (fun r4 hr4 => ?_)
    obtain ⟨_, _, hr4⟩ := hr4
    unfold OnM at hr4
    exact EvP.pos (u64_pos _) (last _ _ _ _ (by omega) (by omega))
  · refine EvP.draw (pick_ev hl r2.2.1 r2.2.2 64 (by omega) (by omega) (by omega)) (fun r4 hr4 => ?_)
    obtain ⟨_, _, hr4⟩ := hr4
    unfold OnM at hr4
    exact EvP.pos (u64_pos _) (last _ _ _ _ (by omega) (by omega))
  · exact last _ _ _ _ (by omega) (by omega)
theorem valueBy_ev {l : List Int} (hl : BytesM l) (a s v : Int) (h0 : 0 ≤ a) (h1 : a ≤ 3600000000000000000) : EvP (fun k => spec_l1Cur_valueBy.f k l a s v) (fun r => OnM a 20 r.2.1) := by
  unfold spec_l1Cur_valueBy.f
  refine EvP.draw (pick_ev hl a s 10 h0 (by omega) (by omega)) (fun r1 hr1 => ?_)
  obtain ⟨_, _, hr1⟩ := hr1
  unfold OnM at hr1
  have now : ∀ x : Int, EvP (fun _ : Nat => some (x, r1.2.1, r1.2.2)) (fun r : Int × Int × Int => OnM a 20 r.2.1) := fun x => EvP.now ⟨by show a ≤ r1.2.1; omega, by show r1.2.1 ≤ a + 20; omega⟩
  refine EvP.ite (fun _ => ?_) (fun _ => EvP.ite (fun _ => now _) (fun _ => EvP.ite (fun _ => now _) (fun _ => EvP.ite (fun _ => now _) (fun _ => ?_))))
  · refine EvP.bind (sized_ev hl r1.2.1 r1.2.2 (by omega) (by omega)) (fun r hr => ?_)
    unfold OnM at hr
    exact EvP.now ⟨by show a ≤ r.2.1; omega, by show r.2.1 ≤ a + 20; omega⟩
  · refine EvP.draw (pick_ev hl r1.2.1 r1.2.2 9 (by omega) (by omega) (by omega)) (fun r hr => ?_)
    obtain ⟨_, _, hr⟩ := hr
    unfold OnM at hr
    exact EvP.now ⟨by show a ≤ r.2.1; omega, by show r.2.1 ≤ a + 20; omega⟩
theorem seasonal_loop {l : List Int} (hl : BytesM l) (m : Int) (hm : m ≠ 0) : ∀ (d : Nat) (acc : List SM) (t a s : Int), acc.length + d = 32 → 0 ≤ a → a + 100 * d + 10 ≤ 3500000000000000000 →
    EvP (fun k => spec_l1Cur_seasonal.l0 k m acc t l a s) (fun r => r.1.length ≤ 32 ∧ 0 ≤ r.2.1 ∧ r.2.1 ≤ 3500000000000000000) := by
  intro d
  induction d with
  | zero =>
    intro acc t a s h h0 h1
    refine EvP.step ?_
    simp only [spec_l1Cur_seasonal.l0]
    refine EvP.draw (pick_ev hl a s 20 h0 (by omega) (by omega)) (fun r hr => ?_)
    obtain ⟨hx0, hx1, hr⟩ := hr
    unfold OnM at hr
    rw [show wrap64 (12 + r.1) = 12 + r.1 from Evs.w64 (by omega) (by omega)]
    refine EvP.neg (by omega) (EvP.now ⟨by show acc.length ≤ 32; omega, by show 0 ≤ r.2.1; omega, by show r.2.1 ≤ _; omega⟩)
  | succ d ih =>
    intro acc t a s h h0 h1
    have j1 : ∀ v b t', a ≤ b → b ≤ a + 6 → EvP (fun k => spec_l1Cur_seasonal.j1 k m acc t v l b t') (fun r => r.1.length ≤ 32 ∧ 0 ≤ r.2.1 ∧ r.2.1 ≤ 3500000000000000000) := by
      intro v b t' hb0 hb1
      refine EvP.step ?_
      simp only [spec_l1Cur_seasonal.j1]
      have go : ∀ v c t', a ≤ c → c ≤ a + 40 → EvP (fun k => if acc.length < 8796093022208 then ((spec_l1Cur_pick.f l c t' 3).bind fun bt => (spec_l1Cur_seasonal.l0 k m (acc ++ [(⟨t, v⟩ : SM)]) (wrap64 (t + (wrap64 (1 + bt.1)))) l bt.2.1 bt.2.2)) else (none)) (fun r => r.1.length ≤ 32 ∧ 0 ≤ r.2.1 ∧ r.2.1 ≤ 3500000000000000000) := by
        intro v c t' hc0 hc1
        refine EvP.pos (by omega) (EvP.draw (pick_ev hl c t' 3 (by omega) (by omega) (by omega)) (fun r hr => ?_))
        obtain ⟨_, _, hr⟩ := hr
        unfold OnM at hr
        exact ih _ _ _ _ (by rw [List.length_append]; simp only [List.length_cons, List.length_nil]; omega) (by omega) (by omega)
      refine EvP.draw (one_ev hl b t' 12 (by omega) (by omega) (by omega)) (fun r hr => ?_)
      unfold OnM at hr
      refine EvP.ite (fun _ => ?_) (fun _ => go _ _ _ (by omega) (by omega))
      refine EvP.bind (valueBy_ev hl r.2.1 r.2.2 v (by omega) (by omega)) (fun q hq => ?_)
      unfold OnM at hq
      exact go _ _ _ (by omega) (by omega)
    refine EvP.step ?_
    simp only [spec_l1Cur_seasonal.l0]
    refine EvP.draw (pick_ev hl a s 20 h0 (by omega) (by omega)) (fun r hr => ?_)
    obtain ⟨hx0, hx1, hr⟩ := hr
    unfold OnM at hr
    refine EvP.ite (fun _ => ?_) (fun _ => EvP.now ⟨by show acc.length ≤ 32; omega, by show 0 ≤ r.2.1; omega, by show r.2.1 ≤ _; omega⟩)
    refine EvP.neg hm (EvP.draw (one_ev hl r.2.1 r.2.2 3 (by omega) (by omega) (by omega)) (fun q hq => ?_))
    unfold OnM at hq
    refine EvP.ite (fun _ => ?_) (fun _ => j1 _ _ _ (by omega) (by omega))
    refine EvP.draw (pick_ev hl q.2.1 q.2.2 5 (by omega) (by omega) (by omega)) (fun p hp => ?_)
    obtain ⟨_, _, hp⟩ := hp
    unfold OnM at hp
    exact j1 _ _ _ (by omega) (by omega)
theorem seasonal_ev {l : List Int} (hl : BytesM l) (a s m : Int) (hm : m ≠ 0) (h0 : 0 ≤ a) (h1 : a ≤ 1000) : EvP (fun k => spec_l1Cur_seasonal.f k l a s m) (fun r => r.1.length ≤ 32 ∧ 0 ≤ r.2.1 ∧ r.2.1 ≤ 3500000000000000000) := by
  unfold spec_l1Cur_seasonal.f
  refine EvP.draw (pick_ev hl a s 3 h0 (by omega) (by omega)) (fun r hr => ?_)
  obtain ⟨_, _, hr⟩ := hr
  unfold OnM at hr
  exact seasonal_loop hl m hm 32 [] r.1 r.2.1 r.2.2 rfl (by omega) (by omega)
theorem odd_ev {l : List Int} (hl : BytesM l) (a s : Int) (x : List SM) (hx : x.length ≤ 32) (h0 : 0 ≤ a) (h1 : a ≤ 3600000000000000000) : ∃ r, spec_l1Cur_oddSamples.f l a s x = some r ∧ r.1.length ≤ 33 ∧ OnM a 4 r.2.1 := by
  unfold spec_l1Cur_oddSamples.f
  obtain ⟨⟨c, b, t⟩, e, _, _, hb⟩ := pick_ev hl a s 20 h0 (by omega) (by omega)
  rw [e]
  unfold OnM at hb
  simp only [Option.bind_some] at *
  have self : ∃ r : List SM × Int × Int, some (x, b, t) = some r ∧ r.1.length ≤ 33 ∧ OnM a 4 r.2.1 := ⟨_, rfl, by show x.length ≤ 33; omega, by show a ≤ b; omega, by show b ≤ a + 4; omega⟩
  by_cases h1 : c = 0
  · rw [if_pos h1]
    by_cases h2 : (x.length : Int) > 1
    · rw [if_pos h2, if_pos (by omega), if_pos (by omega)]
      exact ⟨_, rfl, by show (x.set _ _).length ≤ 33; rw [List.length_set]; omega, by show a ≤ b; omega, by show b ≤ a + 4; omega⟩
    · rw [if_neg h2]
      exact self
  · rw [if_neg h1]
    by_cases h2 : c = 1
    · rw [if_pos h2]
      obtain ⟨⟨c2, b2, t2⟩, e2, hb2⟩ := of2_ev hl b t 1000000000000 1000000000001 (by omega) (by omega)
      rw [e2]
      unfold OnM at hb2
      simp only [Option.bind_some] at *
      rw [if_pos (by omega)]
      exact ⟨_, rfl, by show (x ++ [_]).length ≤ 33; rw [List.length_append]; simp only [List.length_cons, List.length_nil]; omega, by show a ≤ b2; omega, by show b2 ≤ a + 4; omega⟩
    · rw [if_neg h2]
      by_cases h3 : c = 2
      · rw [if_pos h3]
        by_cases h4 : (x.length : Int) > 0
        · rw [if_pos h4, if_pos (by omega)]
          exact ⟨_, rfl, by show (x.set _ _).length ≤ 33; rw [List.length_set]; omega, by show a ≤ b; omega, by show b ≤ a + 4; omega⟩
        · rw [if_neg h4]
          exact self
      · rw [if_neg h3]
        exact self
theorem draw_ev {l : List Int} (hl : BytesM l) : EvP (fun k => spec_DrawStrangeIn.f k l) (fun r => r.1.length ≤ 33) := by
  unfold spec_DrawStrangeIn.f
  refine EvP.draw (pick_ev hl 0 0 12 (by omega) (by omega) (by omega)) (fun p hp => ?_)
  obtain ⟨hp0, hp1, hp⟩ := hp
  unfold OnM at hp
  rw [show wrap64 (2 + p.1) = 2 + p.1 from Evs.w64 (by omega) (by omega)]
  refine EvP.bind (seasonal_ev hl p.2.1 p.2.2 (2 + p.1) (by omega) (by omega) (by omega)) (fun q hq => ?_)
  refine EvP.draw (odd_ev hl q.2.1 q.2.2 q.1 hq.1 hq.2.1 (by omega)) (fun o ho => ?_)
  obtain ⟨hol, ho⟩ := ho
  unfold OnM at ho
  refine EvP.draw (pick_ev hl o.2.1 o.2.2 6 (by omega) (by omega) (by omega)) (fun u hu => ?_)
  obtain ⟨_, _, hu⟩ := hu
  unfold OnM at hu
  refine EvP.draw (pick_ev hl u.2.1 u.2.2 40 (by omega) (by omega) (by omega)) (fun v hv => ?_)
  exact EvP.now hol
end Go.Proofs.Ytedfbdholjjflaa.PFnStrange
