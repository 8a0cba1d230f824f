/- The program's ColourOf returns what the reference's returns, for every list of colours and every value. No further condition. -/
import Derived.Test.YtmneleafdhgalaaPFnExactColourOfx3
import Derived.Test.YtmneleafdhgalaaGFnExactColourOf
import Derived.Lib.Strings
namespace Go.Proofs.Ytmneleafdhgalaa.PureFnExactColourOf
open Go.RowKit Go.Proofs.Ytmneleafdhgalaa.PFnExactColourOf Go.Proofs.YtmneleafdhgalaaW.PrintWords Go.Proofs.YtmneleafdhgalaaW.PrintLast Go.Proofs.Ytmneleafdhgalaa.Opn Go.Proofs.Ytmneleafdhgalaa.GFnExactColourOf

theorem w64 {x : Int} (h0 : -9223372036854775808 ≤ x) (h1 : x ≤ 9223372036854775807) : wrap64 x = x := by
  unfold wrap64
  omega

/-! Names -/
def digC (c : Int) : Bool := decide (48 ≤ c) && decide (c ≤ 57)
def letC (c : Int) : Bool := (decide (97 ≤ c) && decide (c ≤ 122)) || (decide (65 ≤ c) && decide (c ≤ 90))
def wordC (c : Int) : Bool := letC c || digC c || (c == 95)
def nameB (s : ByteArray) : Bool := decide (1 ≤ s.size) && decide (s.size ≤ 40) && !digC (bt s 0) && (List.range' 0 s.size).all (fun j => wordC (bt s (j : Int)))

theorem dig_spec (c : Int) : spec_l2Digit.f c = some (digC c) := by
  unfold spec_l2Digit.f digC
  by_cases h : c ≥ 48
  · rw [if_pos h]; simp [show (48 : Int) ≤ c from h]
  · rw [if_neg h]; simp [show ¬ (48 : Int) ≤ c from h]
theorem dig_impl (c : Int) : impl_digitByte.f c = some (digC c) := dig_spec c
theorem let_spec (c : Int) : spec_l2Letter.f c = some (letC c) := by
  unfold spec_l2Letter.f letC
  by_cases h : c ≥ 97
  · rw [if_pos h]
    by_cases h2 : c ≤ 122
    · rw [if_pos h2]; simp [show (97 : Int) ≤ c from h, h2]
    · rw [if_neg h2, if_pos (by omega)]; simp [show (97 : Int) ≤ c from h, h2]
      omega
  · rw [if_neg h]
    by_cases h2 : c ≥ 65
    · rw [if_pos h2]; simp [show ¬ (97 : Int) ≤ c from h, show (65 : Int) ≤ c from h2]
    · rw [if_neg h2]; simp [show ¬ (97 : Int) ≤ c from h, show ¬ (65 : Int) ≤ c from h2]
theorem let_impl (c : Int) : impl_letterByte.f c = some (letC c) := let_spec c
theorem word_impl (c : Int) : impl_wordByte.f c = some (wordC c) := by
  unfold impl_wordByte.f wordC
  rw [let_impl, dig_impl]
  simp only [Option.bind_some]
  cases letC c <;> cases digC c <;> simp

theorem l2_loop (s : ByteArray) (hs : s.size ≤ 40) : ∀ (d i : Nat), i + d = s.size → Ev (fun k => spec_l2Name.l0 k s (i : Int)) ((List.range' i d).all (fun j => wordC (bt s (j : Int)))) := by
  intro d
  induction d with
  | zero =>
    intro i h
    refine Ev.step (f := fun _ => some true) (fun k => ?_) (Ev.now _)
    simp only [spec_l2Name.l0]
    rw [if_neg (by omega)]
  | succ d ih =>
    intro i h
    have hn := ih (i + 1) (by omega)
    have e : wrap64 ((i : Int) + 1) = ((i + 1 : Nat) : Int) := by rw [w64 (by omega) (by omega)]; omega
    refine Ev.step (f := fun k => if wordC (bt s (i : Int)) = true then spec_l2Name.l0 k s ((i + 1 : Nat) : Int) else some false) (fun k => ?_) ?_
    · simp only [spec_l2Name.l0]
      rw [if_pos (by omega), if_pos (by omega), let_spec, dig_spec, e]
      unfold wordC
      cases letC (bt s (i : Int)) <;> cases digC (bt s (i : Int)) <;> simp
    · rw [List.range'_succ, List.all_cons]
      cases wordC (bt s (i : Int)) with
      | true => simpa using hn
      | false => simpa using Ev.now false

theorem l2Name_ev (s : ByteArray) : Ev (fun k => spec_l2Name.f k s) (nameB s) := by
  unfold spec_l2Name.f nameB
  have bad : Ev (fun k => spec_l2Name.j0 k s true) false := Ev.step (f := fun _ => some false) (fun k => by simp [spec_l2Name.j0]) (Ev.now _)
  by_cases h1 : (s.size : Int) < 1
  · simp only [if_pos h1]
    rw [show decide (1 ≤ s.size) = false from decide_eq_false (by omega)]
    simpa using bad
  · simp only [if_neg h1]
    by_cases h2 : (s.size : Int) > 40
    · simp only [if_pos h2]
      rw [show decide (s.size ≤ 40) = false from decide_eq_false (by omega)]
      simpa using bad
    · simp only [if_neg h2, if_pos (show (0 : Int) < (s.size : Int) by omega), dig_spec, Option.bind_some]
      rw [show decide (1 ≤ s.size) = true from decide_eq_true (by omega), show decide (s.size ≤ 40) = true from decide_eq_true (by omega)]
      cases digC (bt s 0) with
      | true => simpa using bad
      | false =>
        have hl := l2_loop s (by omega) s.size 0 (by omega)
        have := Ev.step (g := fun k => spec_l2Name.j0 k s false) (f := fun k => spec_l2Name.l0 k s 0) (fun k => by simp [spec_l2Name.j0]) hl
        simpa using this

theorem isName_loop (s : ByteArray) (hs : s.size ≤ 40) : ∀ (d i : Nat), i + d = s.size → Ev (fun k => impl_isName.l0 k s (s.size : Int) (i : Int)) ((List.range' i d).all (fun j => wordC (bt s (j : Int)))) := by
  intro d
  induction d with
  | zero =>
    intro i h
    refine Ev.step (f := fun _ => some true) (fun k => ?_) (Ev.now _)
    simp only [impl_isName.l0]
    rw [if_neg (by omega)]
  | succ d ih =>
    intro i h
    have hn := ih (i + 1) (by omega)
    have e : wrap64 ((i : Int) + 1) = ((i + 1 : Nat) : Int) := by rw [w64 (by omega) (by omega)]; omega
    refine Ev.step (f := fun k => if wordC (bt s (i : Int)) = true then impl_isName.l0 k s (s.size : Int) ((i + 1 : Nat) : Int) else some false) (fun k => ?_) ?_
    · simp only [impl_isName.l0]
      rw [if_pos (by omega), if_pos (by omega), if_pos (by omega), word_impl, e]
      simp
    · rw [List.range'_succ, List.all_cons]
      cases wordC (bt s (i : Int)) with
      | true => simpa using hn
      | false => simpa using Ev.now false

theorem size_zero {s : ByteArray} (h : s.toList = []) : s.size = 0 := by
  have := congrArg List.length h
  rw [Lib.toList_data, Array.length_toList] at this
  exact this

theorem isName_ev (s : ByteArray) : Ev (fun k => impl_isName.f k s) (nameB s) := by
  unfold impl_isName.f nameB
  have bad : Ev (fun k => impl_isName.j0 k s true) false := Ev.step (f := fun _ => some false) (fun k => by simp [impl_isName.j0]) (Ev.now _)
  by_cases h1 : s.toList = ([] : List UInt8)
  · simp only [if_pos h1]
    have := size_zero h1
    rw [show decide (1 ≤ s.size) = false from decide_eq_false (by omega)]
    simpa using bad
  · have h1' : 1 ≤ s.size := by
      apply Classical.byContradiction
      intro h
      apply h1
      have h0 : s.size = 0 := by omega
      apply List.eq_nil_of_length_eq_zero
      rw [Lib.toList_data, Array.length_toList]
      exact h0
    simp only [if_neg h1]
    by_cases h2 : (s.size : Int) > 40
    · simp only [if_pos h2]
      rw [show decide (s.size ≤ 40) = false from decide_eq_false (by omega)]
      simpa using bad
    · simp only [if_neg h2, if_pos (show (0 : Int) < (s.size : Int) by omega), dig_impl, Option.bind_some]
      rw [show decide (1 ≤ s.size) = true from decide_eq_true (by omega), show decide (s.size ≤ 40) = true from decide_eq_true (by omega)]
      cases digC (bt s 0) with
      | true => simpa using bad
      | false =>
        have hl := isName_loop s (by omega) s.size 0 (by omega)
        have := Ev.step (g := fun k => impl_isName.j0 k s false) (f := fun k => impl_isName.l0 k s (s.size : Int) 0) (fun k => by simp [impl_isName.j0]) hl
        simpa using this

/-! Colours -/
/-- From place i on each has a name and is above the one ahead. -/
def colB (l : List S65) (i d : Nat) : Bool := (List.range' i d).all fun j => nameB (rd_T65 l (j : Int)).f1 && !(decide (0 < j) && decide ((rd_T65 l (j : Int)).f0 ≤ (rd_T65 l ((j : Int) - 1)).f0))

theorem cols_spec (l : List S65) (hl : l.length ≤ 1048576) : ∀ (d i : Nat), i + d = l.length → Ev (fun k => spec_l25Colours.l0 k l l (l.length : Int) (i : Int)) (colB l i d && decide (l.length ≤ 10)) := by
  intro d
  induction d with
  | zero =>
    intro i h
    refine Ev.step (f := fun _ => some (decide (l.length ≤ 10))) (fun k => ?_) (by simpa [colB] using Ev.now _)
    simp only [spec_l25Colours.l0]
    rw [if_neg (by omega)]
    congr 1
    rw [decide_eq_decide]
    omega
  | succ d ih =>
    intro i h
    have hn := ih (i + 1) (by omega)
    have e : wrap64 ((i : Int) + 1) = ((i + 1 : Nat) : Int) := by rw [w64 (by omega) (by omega)]; omega
    refine Ev.step (f := fun k => (spec_l2Name.f k (rd_T65 l (i : Int)).f1).bind fun t => if (t && !(decide (0 < i) && decide ((rd_T65 l (i : Int)).f0 ≤ (rd_T65 l ((i : Int) - 1)).f0))) = true then spec_l25Colours.l0 k l l (l.length : Int) ((i + 1 : Nat) : Int) else some false) (fun k => ?_) ?_
    · simp only [spec_l25Colours.l0]
      rw [if_pos (by omega), if_pos (by omega), if_pos (by omega), e]
      congr 1
      funext t
      cases t with
      | false => simp
      | true =>
        by_cases h0 : 0 < i
        · rw [if_pos rfl, if_pos (by omega), w64 (x := (i : Int) - 1) (by omega) (by omega), if_pos (by omega), if_pos (by omega)]
          by_cases hc : (rd_T65 l (i : Int)).f0 ≤ (rd_T65 l ((i : Int) - 1)).f0
          · rw [if_pos hc]; simp [h0, hc]
          · rw [if_neg hc]; simp [hc]
        · rw [if_pos rfl, if_neg (by omega)]; simp [h0]
    · refine Ev.bind (l2Name_ev _) ?_
      show Ev _ _
      rw [colB, List.range'_succ, List.all_cons]
      cases (nameB (rd_T65 l (i : Int)).f1 && !(decide (0 < i) && decide ((rd_T65 l (i : Int)).f0 ≤ (rd_T65 l ((i : Int) - 1)).f0))) with
      | true => simpa [colB] using hn
      | false => simpa using Ev.now false

theorem cols_impl (l : List S65) (hl : l.length ≤ 1048576) : ∀ (d i : Nat), i + d = l.length → Ev (fun k => impl_goodColours.l0 k l l (l.length : Int) (i : Int)) (colB l i d) := by
  intro d
  induction d with
  | zero =>
    intro i h
    refine Ev.step (f := fun _ => some true) (fun k => ?_) (by simpa [colB] using Ev.now true)
    simp only [impl_goodColours.l0]
    rw [if_neg (by omega)]
  | succ d ih =>
    intro i h
    have hn := ih (i + 1) (by omega)
    have e : wrap64 ((i : Int) + 1) = ((i + 1 : Nat) : Int) := by rw [w64 (by omega) (by omega)]; omega
    refine Ev.step (f := fun k => (impl_isName.f k (rd_T65 l (i : Int)).f1).bind fun t => if (t && !(decide (0 < i) && decide ((rd_T65 l (i : Int)).f0 ≤ (rd_T65 l ((i : Int) - 1)).f0))) = true then impl_goodColours.l0 k l l (l.length : Int) ((i + 1 : Nat) : Int) else some false) (fun k => ?_) ?_
    · simp only [impl_goodColours.l0]
      rw [if_pos (by omega), if_pos (by omega), if_pos (by omega), e]
      congr 1
      funext t
      cases t with
      | false => simp
      | true =>
        by_cases h0 : 0 < i
        · rw [if_pos rfl, if_pos (by omega), w64 (x := (i : Int) - 1) (by omega) (by omega), if_pos (by omega), if_pos (by omega)]
          by_cases hc : (rd_T65 l (i : Int)).f0 ≤ (rd_T65 l ((i : Int) - 1)).f0
          · rw [if_pos hc]; simp [h0, hc]
          · rw [if_neg hc]; simp [hc]
        · rw [if_pos rfl, if_neg (by omega)]; simp [h0]
    · refine Ev.bind (isName_ev _) ?_
      show Ev _ _
      rw [colB, List.range'_succ, List.all_cons]
      cases (nameB (rd_T65 l (i : Int)).f1 && !(decide (0 < i) && decide ((rd_T65 l (i : Int)).f0 ≤ (rd_T65 l ((i : Int) - 1)).f0))) with
      | true => simpa [colB] using hn
      | false => simpa using Ev.now false

def goodB (l : List S65) : Bool := colB l 0 l.length && decide (l.length ≤ 10)

theorem good_spec (l : List S65) (hl : l.length ≤ 1048576) : Ev (fun k => spec_l25Colours.f k l) (goodB l) := cols_spec l hl l.length 0 (by omega)
theorem good_impl (l : List S65) (hl : l.length ≤ 1048576) : Ev (fun k => impl_goodColours.f k l) (goodB l) := by
  unfold impl_goodColours.f goodB
  by_cases h : (l.length : Int) > 10
  · simp only [if_pos h]
    rw [show decide (l.length ≤ 10) = false from decide_eq_false (by omega)]
    simpa using Ev.now false
  · simp only [if_neg h]
    rw [show decide (l.length ≤ 10) = true from decide_eq_true (by omega)]
    simpa using cols_impl l hl l.length 0 (by omega)

/-- The last colour from place i on that is not above the value. -/
def colF (l : List S65) (v : Int) : Nat → Nat → ByteArray → ByteArray
  | _, 0, s => s
  | i, d + 1, s => colF l v (i + 1) d (if (rd_T65 l (i : Int)).f0 ≤ v then (rd_T65 l (i : Int)).f1 else s)

theorem col_spec (l : List S65) (v : Int) (hl : l.length ≤ 1048576) : ∀ (d i : Nat) (s : ByteArray), i + d = l.length → Ev (fun k => spec_l25Colour.l0 k v s l (l.length : Int) (i : Int)) (colF l v i d s) := by
  intro d
  induction d with
  | zero =>
    intro i s h
    refine Ev.step (f := fun _ => some s) (fun k => ?_) (Ev.now _)
    simp only [spec_l25Colour.l0]
    rw [if_neg (by omega)]
  | succ d ih =>
    intro i s h
    have e : wrap64 ((i : Int) + 1) = ((i + 1 : Nat) : Int) := by rw [w64 (by omega) (by omega)]; omega
    refine Ev.step (f := fun k => spec_l25Colour.l0 k v (if (rd_T65 l (i : Int)).f0 ≤ v then (rd_T65 l (i : Int)).f1 else s) l (l.length : Int) ((i + 1 : Nat) : Int)) (fun k => ?_) (ih (i + 1) _ (by omega))
    simp only [spec_l25Colour.l0]
    rw [if_pos (by omega), if_pos (by omega), if_pos (by omega), e]
    split <;> rfl

theorem col_impl (l : List S65) (v : Int) (hl : l.length ≤ 1048576) : ∀ (d i : Nat) (s : ByteArray), i + d = l.length → Ev (fun k => impl_ColourOf.l0 k v s l (l.length : Int) (i : Int)) (colF l v i d s) := by
  intro d
  induction d with
  | zero =>
    intro i s h
    refine Ev.step (f := fun _ => some s) (fun k => ?_) (Ev.now _)
    simp only [impl_ColourOf.l0]
    rw [if_neg (by omega)]
  | succ d ih =>
    intro i s h
    have e : wrap64 ((i : Int) + 1) = ((i + 1 : Nat) : Int) := by rw [w64 (by omega) (by omega)]; omega
    refine Ev.step (f := fun k => impl_ColourOf.l0 k v (if (rd_T65 l (i : Int)).f0 ≤ v then (rd_T65 l (i : Int)).f1 else s) l (l.length : Int) ((i + 1 : Nat) : Int)) (fun k => ?_) (ih (i + 1) _ (by omega))
    simp only [impl_ColourOf.l0]
    rw [if_pos (by omega), if_pos (by omega), if_pos (by omega), e]
    split <;> rfl

def colourB (l : List S65) (v : Int) : ByteArray := if goodB l = true then colF l v 0 l.length ⟨#[]⟩ else ⟨#[]⟩

theorem colour_spec (l : List S65) (v : Int) (hl : l.length ≤ 1048576) : Ev (fun k => spec_ColourOf.f k l v) (colourB l v) := by
  unfold spec_ColourOf.f colourB
  refine Ev.bind (good_spec l hl) ?_
  cases goodB l with
  | true =>
    have h := Ev.bind (f := fun _ t => some t) (col_spec l v hl l.length 0 ⟨#[]⟩ (by omega)) (Ev.now _)
    simp only [if_true]
    exact h
  | false => simpa using Ev.now _

theorem colour_impl (l : List S65) (v : Int) (hl : l.length ≤ 1048576) : Ev (fun k => impl_ColourOf.f k l v) (colourB l v) := by
  unfold impl_ColourOf.f colourB
  refine Ev.bind (good_impl l hl) ?_
  cases goodB l with
  | true =>
    have h := col_impl l v hl l.length 0 ⟨#[]⟩ (by omega)
    simp only [if_true]
    exact h
  | false => simpa using Ev.now _

/-! The law's own helpers -/
def conv (x : S63) : S65 := ⟨x.f0, x.f1⟩

/-- What is counted: one for each element and its letters; -1 once it is used up. The answer is at most what is left. -/
theorem sz_loop (l : List S63) (hg : ∀ x ∈ l, x.f1.size ≤ 9223372036854775807) (hl : l.length ≤ 9223372036854775807) : ∀ (d i : Nat) (left : Int), i + d = l.length → 0 ≤ left → left ≤ 1048576 → ∃ r, Ev (fun k => laws_szColourS.l0 k l left (i : Int)) r ∧ r ≤ left := by
  intro d
  induction d with
  | zero =>
    intro i left h h0 h1
    refine ⟨left, Ev.step (f := fun _ => some left) (fun k => ?_) (Ev.now _), Int.le_refl _⟩
    simp only [laws_szColourS.l0]
    rw [if_neg (by omega)]
  | succ d ih =>
    intro i left h h0 h1
    have e : wrap64 ((i : Int) + 1) = ((i + 1 : Nat) : Int) := by rw [w64 (by omega) (by omega)]; omega
    have hm : rd_T63 l (i : Int) ∈ l := by
      unfold rd_T63
      rw [show (i : Int).toNat = i from by omega, List.getD_eq_getElem?_getD, List.getElem?_eq_getElem (by omega)]
      exact List.getElem_mem _
    have hsz := hg _ hm
    generalize hx : rd_T63 l (i : Int) = x at hsz
    have e2 : wrap64 (left - (x.f1.size : Int)) = left - (x.f1.size : Int) := w64 (by omega) (by omega)
    by_cases hc : left - (x.f1.size : Int) < 0
    · refine ⟨-1, Ev.step (f := fun _ => some (-1)) (fun k => ?_) (Ev.now _), by omega⟩
      simp only [laws_szColourS.l0]
      rw [if_pos (by omega), if_pos (by omega), hx]
      unfold laws_szColour.f
      rw [e2, if_pos hc]
      simp
    · obtain ⟨r, hr, hle⟩ := ih (i + 1) (left - (x.f1.size : Int)) (by omega) (by omega) (by omega)
      refine ⟨r, Ev.step (f := fun k => laws_szColourS.l0 k l (left - (x.f1.size : Int)) ((i + 1 : Nat) : Int)) (fun k => ?_) hr, by omega⟩
      simp only [laws_szColourS.l0]
      rw [if_pos (by omega), if_pos (by omega), hx]
      unfold laws_szColour.f
      rw [e2, if_neg hc, e]
      simp [hc]

theorem sz_ev (l : List S63) (hg : ∀ x ∈ l, x.f1.size ≤ 9223372036854775807) (hl : l.length ≤ 9223372036854775807) : ∃ r, Ev (fun k => laws_szColourS.f k l 1048576) r ∧ (0 ≤ r → l.length ≤ 1048576) := by
  unfold laws_szColourS.f
  have e2 : wrap64 (1048576 - (l.length : Int)) = 1048576 - (l.length : Int) := w64 (by omega) (by omega)
  rw [e2]
  by_cases hc : 1048576 - (l.length : Int) < 0
  · exact ⟨-1, by simpa [hc] using Ev.now (-1), by omega⟩
  · obtain ⟨r, hr, hle⟩ := sz_loop l hg hl l.length 0 (1048576 - (l.length : Int)) (by omega) (by omega) (by omega)
    exact ⟨r, by simpa [hc] using hr, by omega⟩

theorem to_loop (l : List S63) (hl : l.length ≤ 1048576) : ∀ (d i : Nat) (acc : List S65), i + d = l.length → acc.length = l.length → acc.take i = (l.take i).map conv → Ev (fun k => laws_toColourS.l0 k l acc (i : Int)) (l.map conv) := by
  intro d
  induction d with
  | zero =>
    intro i acc h ha ht
    have : acc = l.map conv := by
      have h1 : i = l.length := by omega
      subst h1
      rw [List.take_of_length_le (by omega), List.take_of_length_le (by omega)] at ht
      exact ht
    refine Ev.step (f := fun _ => some acc) (fun k => ?_) (by rw [this]; exact Ev.now _)
    simp only [laws_toColourS.l0]
    rw [if_neg (by omega)]
  | succ d ih =>
    intro i acc h ha ht
    have e : wrap64 ((i : Int) + 1) = ((i + 1 : Nat) : Int) := by rw [w64 (by omega) (by omega)]; omega
    have hx : rd_T63 l (i : Int) = l[i]'(by omega) := by
      unfold rd_T63
      rw [show (i : Int).toNat = i from by omega, List.getD_eq_getElem?_getD, List.getElem?_eq_getElem (by omega)]
      rfl
    refine Ev.step (f := fun k => laws_toColourS.l0 k l (acc.set i (conv (l[i]'(by omega)))) ((i + 1 : Nat) : Int)) (fun k => ?_) (ih (i + 1) (acc.set i (conv (l[i]'(by omega)))) (by omega) (by rw [List.length_set]; exact ha) ?_)
    · simp only [laws_toColourS.l0, laws_toColour.f, Option.bind_some]
      rw [if_pos (by omega), if_pos (by omega), if_pos (by omega), e, hx, show (i : Int).toNat = i from by omega]
      rfl
    · rw [List.take_succ_eq_append_getElem (by simp; omega), List.take_succ_eq_append_getElem (by omega), List.map_append, List.getElem_set_self, List.take_set_of_le (Nat.le_refl _), ht]
      rfl

theorem to_ev (l : List S63) (hl : l.length ≤ 1048576) : Ev (fun k => laws_toColourS.f k l) (l.map conv) := by
  unfold laws_toColourS.f
  simp only [if_pos (show 0 ≤ (l.length : Int) by omega), if_pos (show (l.length : Int).toNat ≤ 11728124029610 by omega)]
  exact to_loop l hl l.length 0 _ (by omega) (by simp) (by simp)

theorem eq_loop (l : List S65) (hl : l.length ≤ 1048576) : ∀ (d i : Nat), i + d = l.length → Ev (fun k => laws_eqColourS.l0 k l l (i : Int)) true := by
  intro d
  induction d with
  | zero =>
    intro i h
    refine Ev.step (f := fun _ => some true) (fun k => ?_) (Ev.now _)
    simp only [laws_eqColourS.l0]
    rw [if_neg (by omega)]
  | succ d ih =>
    intro i h
    have e : wrap64 ((i : Int) + 1) = ((i + 1 : Nat) : Int) := by rw [w64 (by omega) (by omega)]; omega
    refine Ev.step (f := fun k => laws_eqColourS.l0 k l l ((i + 1 : Nat) : Int)) (fun k => ?_) (ih (i + 1) (by omega))
    simp only [laws_eqColourS.l0]
    rw [if_pos (by omega), if_pos (by omega), if_pos (by omega), e]
    unfold laws_eqColour.f
    simp

theorem eq_ev (l : List S65) (hl : l.length ≤ 1048576) : Ev (fun k => laws_eqColourS.f k l l) true := by
  unfold laws_eqColourS.f
  simp only [if_true]
  exact eq_loop l hl l.length 0 (by omega)

theorem law (l : List S63) (gl : GoodL good63 l) (v : Int) (_ : (Lit.int .i64 v).wf = true) : ∃ k, laws_FnExactColourOf.f k l v = some true := by
  have hl := gl.1
  have hg : ∀ x ∈ l, x.f1.size ≤ 9223372036854775807 := fun x hx => (gl.2 x hx).2
  refine Ev.rounds (?_ : Ev (fun k => laws_FnExactColourOf.f k l v) true)
  unfold laws_FnExactColourOf.f
  obtain ⟨r, hr, hs⟩ := sz_ev l hg hl
  refine Ev.bind hr ?_
  by_cases h0 : r < 0
  · simpa [h0] using Ev.now true
  · simp only [if_neg h0]
    have hl2 := hs (by omega)
    have ht := to_ev l hl2
    have hm : (l.map conv).length ≤ 1048576 := by simpa using hl2
    refine Ev.bind ht (Ev.bind (colour_spec _ v hm) (Ev.bind ht (Ev.bind (colour_impl _ v hm) ?_)))
    simp only [if_true]
    refine Ev.bind ht (Ev.bind (eq_ev _ hm) ?_)
    simpa using Ev.now true

end Go.Proofs.Ytmneleafdhgalaa.PureFnExactColourOf
