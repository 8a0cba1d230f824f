/- The reference's reading of parts answers as the program's: the search, and the two ways of cutting a text. -/
import Derived.Test.YtpnldoegchjmmaaHParts
import Derived.Test.YtpnldoegchjmmaaFormFull
import Derived.Test.YtpnldoegchjmmaaPFnExactPartsOfx5
namespace Go.Proofs.Ytpnldoegchjmmaa.PartsEq
open Go.RowKit Go.Proofs.Ytpnldoegchjmmaa.PFnExactPartsOf Go.Proofs.YtpnldoegchjmmaaW.PrintWords Go.Proofs.YtpnldoegchjmmaaW.PrintLast Go.Proofs.Ytpnldoegchjmmaa.Evs Go.Proofs.Ytpnldoegchjmmaa.AFnExactPartsOf Go.Proofs.Ytpnldoegchjmmaa.PrtFnExactPartsOf Go.Proofs.Ytpnldoegchjmmaa.Form Go.Proofs.Ytpnldoegchjmmaa.FormFull Go.Proofs.Ytpnldoegchjmmaa.SortM
set_option linter.unusedVariables false
theorem len_data (p : ByteArray) : p.data.toList.length = p.size := by rw [Array.length_toList]; rfl
theorem ext_all (p : ByteArray) : p.extract 0 p.size = p := by
  apply ByteArray.ext
  rw [ByteArray.data_extract]
  exact Array.extract_size ..
theorem ext_ext' (p : ByteArray) (a b c : Nat) (h : a + c ≤ p.size) : (p.extract a p.size).extract b c = p.extract (a + b) (a + c) := by
  have hp : p.data.size = p.size := rfl
  apply ByteArray.ext
  simp only [ByteArray.data_extract]
  rw [Array.extract_extract]
  congr 1
  omega
theorem list_inj {a b : ByteArray} (h : a.data.toList = b.data.toList) : a = b := by
  apply ByteArray.ext
  exact Array.toList_inj.1 h
/-! ### The search -/
def findI (text p : ByteArray) (i : Nat) : Int := if Lib.index (text.data.toList.drop i) p.data.toList = -1 then -1 else (i : Int) + Lib.index (text.data.toList.drop i) p.data.toList
theorem pre_iff (text p : ByteArray) (i : Nat) : p.data.toList.isPrefixOf (text.data.toList.drop i) = decide ((text.extract i (i + p.size)).toList = p.toList) := by
  rw [Lib.toList_data, Lib.toList_data, Lib.extract_data, show i + p.size - i = p.data.toList.length by rw [len_data]; omega]
  rw [Bool.eq_iff_iff, List.isPrefixOf_iff_prefix, List.prefix_iff_eq_take, decide_eq_true_iff]
  exact ⟨fun h => h.symm, fun h => h.symm⟩
theorem find_loop (text p : ByteArray) (ht : text.size ≤ 1000) (hp : 1 ≤ p.size) (hp2 : p.size ≤ 1000) : ∀ (d i : Nat), i + d = text.size + 1 → EvP (fun k => spec_l22Find.l0 k text p (i : Int)) (fun r => r = findI text p i) := by
  intro d
  induction d with
  | zero =>
    intro i h
    refine EvP.step ?_
    have w : wrap64 ((i : Int) + (p.size : Int)) = ((i + p.size : Nat) : Int) := by unfold wrap64; omega
    simp only [spec_l22Find.l0, w]
    clear w
    refine EvP.neg (by omega) (EvP.now ?_)
    unfold findI
    rw [List.drop_of_length_le (by rw [len_data]; omega)]
    have e : Lib.index [] p.data.toList = -1 := by
      unfold Lib.index
      have : p.data.toList.isEmpty = false := by
        cases hq : p.data.toList with
        | nil => have := len_data p; rw [hq] at this; simp at this; omega
        | cons a b => rfl
      rw [this]; rfl
    rw [e, if_pos rfl]
  | succ d ih =>
    intro i h
    refine EvP.step ?_
    have hw : (i : Int) + (p.size : Int) = ((i + p.size : Nat) : Int) := by omega
    simp only [spec_l22Find.l0]
    rw [show wrap64 ((i : Int) + (p.size : Int)) = ((i + p.size : Nat) : Int) by unfold wrap64; omega]
    by_cases hl : i + p.size ≤ text.size
    · have hn := ih (i + 1) (by omega)
      refine EvP.pos (by omega) (EvP.pos (by omega) (EvP.pos (by omega) ?_))
      rw [Int.toNat_natCast, Int.toNat_natCast]
      have hlen : i < text.data.toList.length := by rw [len_data]; omega
      have hidx : Lib.index (text.data.toList.drop i) p.data.toList = if decide ((text.extract i (i + p.size)).toList = p.toList) = true then 0 else if Lib.index (text.data.toList.drop (i + 1)) p.data.toList == -1 then -1 else Lib.index (text.data.toList.drop (i + 1)) p.data.toList + 1 := by
        rw [← pre_iff, List.drop_eq_getElem_cons hlen]
        rfl
      refine EvP.ite (fun he => EvP.now ?_) (fun he => ?_)
      · unfold findI
        rw [hidx, if_pos (decide_eq_true he), if_neg (by decide)]
        omega
      · rw [if_neg (by rw [decide_eq_false he]; decide)] at hidx
        have hge := Lib.index_ge (text.data.toList.drop (i + 1)) p.data.toList
        have hf : findI text p i = findI text p (i + 1) := by
          unfold findI
          rw [hidx]
          generalize Lib.index (text.data.toList.drop (i + 1)) p.data.toList = q at hge
          by_cases h1 : q = -1
          · rw [h1]; rfl
          · have hx : (if (q == -1) = true then (-1 : Int) else q + 1) = q + 1 := if_neg (by simpa using h1)
            rw [hx, if_neg (by omega), if_neg h1]
            omega
        rw [hf, show wrap64 ((i : Int) + 1) = ((i + 1 : Nat) : Int) by unfold wrap64; omega]
        exact hn
    · refine EvP.neg (by omega) (EvP.now ?_)
      unfold findI
      by_cases h1 : Lib.index (text.data.toList.drop i) p.data.toList = -1
      · rw [if_pos h1]
      · have hge := Lib.index_ge (text.data.toList.drop i) p.data.toList
        have hr := Lib.index_room (text.data.toList.drop i) p.data.toList (by omega)
        rw [List.length_drop, len_data, len_data] at hr
        omega
theorem find_ev (text p : ByteArray) (ht : text.size ≤ 1000) (hp : 1 ≤ p.size) (hp2 : p.size ≤ 1000) (i : Nat) (hi : i ≤ text.size) : EvP (fun k => spec_l22Find.f k text p (i : Int)) (fun r => r = findI text p i) := by
  unfold spec_l22Find.f
  exact find_loop text p ht hp hp2 (text.size + 1 - i) i (by omega)
theorem find_ix (text p : ByteArray) (i : Nat) (hi : i ≤ text.size) : findI text p i = if ixB (text.extract i text.size) p = -1 then -1 else (i : Int) + ixB (text.extract i text.size) p := by
  unfold findI ixB
  rw [Lib.extract_data, List.take_of_length_le (by rw [List.length_drop, len_data]; omega)]
/-! ### The head of what is left -/
def preT (s t : ByteArray) : Bool := decide (t.size ≤ s.size) && ((s.extract 0 t.size).toList == t.toList)
theorem head_ev (s t : ByteArray) : spec_l2Head.f s t = some (preT s t) := by
  unfold spec_l2Head.f preT
  by_cases h : t.size ≤ s.size
  · rw [if_pos (by omega), if_pos (by omega), if_pos (by omega), decide_eq_true h, Bool.true_and, Int.toNat_natCast]
  · rw [if_neg (by omega), decide_eq_false h, Bool.false_and]
theorem cut_pre (s t : ByteArray) : cutP s t = if preT s t = true then (s.extract t.size s.size, true) else (s, false) := rfl
/-- A found text stands at the head of what is left from there. -/
theorem pre_at (text p : ByteArray) (i : Nat) (j : Nat) (hi : i ≤ text.size) (h : ixB (text.extract i text.size) p = (j : Int)) : preT (text.extract (i + j) text.size) p = true ∧ i + j + p.size ≤ text.size := by
  have hs : (text.extract i text.size).size = text.size - i := by rw [ext_size]; omega
  rcases ix_cases (text.extract i text.size) p with h1 | ⟨j', h1, h2⟩
  · rw [h] at h1; omega
  · have e : j' = j := by rw [h] at h1; omega
    subst e
    rw [hs] at h2
    refine ⟨?_, by omega⟩
    have hs2 : (text.extract (i + j') text.size).size = text.size - (i + j') := by rw [ext_size]; omega
    unfold preT
    rw [decide_eq_true (by rw [hs2]; omega), Bool.true_and]
    have hsp := Lib.index_spec (text.extract i text.size).data.toList p.data.toList
    rcases hsp with ⟨a, _⟩ | ⟨i', a, b, c, _⟩
    · unfold ixB at h; omega
    · have e2 : i' = j' := by unfold ixB at h; omega
      subst e2
      unfold Lib.occAt at c
      rw [Lib.extract_data, List.take_of_length_le (by rw [List.length_drop, len_data]; omega), List.drop_drop] at c
      have c2 := pre_iff text p (i + i')
      rw [c] at c2
      have c3 := of_decide_eq_true c2.symm
      rw [ext_ext' text (i + i') 0 p.size (by omega), Nat.add_zero]
      exact beq_iff_eq.2 c3
/-! ### The two ways of cutting a text -/
def endW (text : ByteArray) (at_ : Nat) : List (ByteArray × Bool) → Int
  | [] => (text.size : Int)
  | q :: _ => findI text q.1 at_
def specG (text : ByteArray) : List (ByteArray × Bool) → Nat → List SL → Option (List SL × Nat)
  | [], at_, S => some (S, at_)
  | (p, false) :: rest, at_, S => if preT (text.extract at_ text.size) p = true then specG text rest (at_ + p.size) S else none
  | (n, true) :: rest, at_, S => if endW text at_ rest < 0 then none else if valueB (text.extract at_ (endW text at_ rest).toNat) = true then specG text rest (endW text at_ rest).toNat (insM ⟨n, text.extract at_ (endW text at_ rest).toNat⟩ S) else none
def finS (text : ByteArray) : Option (List SL × Nat) → List SL × Bool
  | none => ([], false)
  | some (S, at_) => (S, decide (at_ = text.size))
/-- From a hole on: what the reference has left, of a form's holes. -/
def fromH (tl : ByteArray) : List SHl → List (ByteArray × Bool)
  | [] => if tl.toList = [] then [] else [(tl, false)]
  | h :: rest => (if h.f0.toList = [] then [] else [(h.f0, false)]) ++ ((h.f1, true) :: fromH tl rest)
theorem encW_fromH (tl : ByteArray) : ∀ hs : List SHl, encW hs tl = fromH tl hs
  | [] => by unfold encW fromH encF; rfl
  | h :: rest => by
    have ih := encW_fromH tl rest
    unfold encW at ih ⊢
    have e : encF (h :: rest) = ((if h.f0.toList = [] then [] else [(h.f0, false)]) ++ [(h.f1, true)]) ++ encF rest := by unfold encF; rw [List.flatMap_cons]
    rw [e, fromH, ← ih]
    simp only [List.append_assoc, List.cons_append, List.nil_append]
theorem em_toList {t : ByteArray} : emB t = true ↔ t.toList = [] := decide_eq_true_iff
theorem em_ext (text : ByteArray) (at_ : Nat) (h : at_ ≤ text.size) : emB (text.extract at_ text.size) = decide (at_ = text.size) := by
  have hs : (text.extract at_ text.size).size = text.size - at_ := by rw [ext_size]; omega
  unfold emB
  refine decide_eq_decide.2 ⟨fun e => ?_, fun e => ?_⟩
  · have := size_zero e
    omega
  · rw [← List.length_eq_zero_iff, size_list]
    omega
theorem step_ok (rest : List SHl) (n : ByteArray) (out : List SL) (v s' : ByteArray) (h : valueB v = true) : stepP rest n out (some (v, s')) = partsG rest s' (out ++ [⟨n, v⟩]) := by
  show (if valueB v = true then partsG rest s' (out ++ [⟨n, v⟩]) else none) = _
  rw [if_pos h]
theorem parts_two (h0 g : SHl) (rest : List SHl) (s : ByteArray) (out : List SL) : partsG (h0 :: g :: rest) s out = stepP (g :: rest) h0.f1 out (nextI s g.f0) := by
  unfold stepP
  conv => lhs; unfold partsG
theorem spec_hole (text n : ByteArray) (W : List (ByteArray × Bool)) (at_ : Nat) (S : List SL) : specG text ((n, true) :: W) at_ S = if endW text at_ W < 0 then none else if valueB (text.extract at_ (endW text at_ W).toNat) = true then specG text W (endW text at_ W).toNat (insM ⟨n, text.extract at_ (endW text at_ W).toNat⟩ S) else none := rfl
theorem spec_text (text p : ByteArray) (W : List (ByteArray × Bool)) (at_ : Nat) (S : List SL) : specG text ((p, false) :: W) at_ S = if preT (text.extract at_ text.size) p = true then specG text W (at_ + p.size) S else none := rfl
theorem spec_two (text n t : ByteArray) (W : List (ByteArray × Bool)) (at_ : Nat) (S : List SL) : specG text ((n, true) :: (t, false) :: W) at_ S = (if findI text t at_ < 0 then none else if valueB (text.extract at_ (findI text t at_).toNat) = true then (if preT (text.extract (findI text t at_).toNat text.size) t = true then specG text W ((findI text t at_).toNat + t.size) (insM ⟨n, text.extract at_ (findI text t at_).toNat⟩ S) else none) else none) := by
  rw [spec_hole, show endW text at_ ((t, false) :: W) = findI text t at_ from rfl, spec_text]
theorem found_step (text t : ByteArray) (ht : ¬ t.toList = []) (n : ByteArray) (h0 g : SHl) (hn : h0.f1 = n) (hg : g.f0 = t) (W' : List (ByteArray × Bool)) (rest' : List SHl) (at_ : Nat) (hat : at_ ≤ text.size) (out : List SL)
    (hrec : ∀ (at' : Nat) (out' : List SL), at' ≤ text.size → finS text (specG text W' at' (sortM out')) = finM (partsG (g :: rest') (text.extract at' text.size) out')) :
    finS text (specG text ((n, true) :: (t, false) :: W') at_ (sortM out)) = finM (partsG (h0 :: g :: rest') (text.extract at_ text.size) out) := by
  have hs : (text.extract at_ text.size).size = text.size - at_ := by rw [ext_size]; omega
  rw [parts_two, spec_two, hg, hn, find_ix text t at_ hat]
  rcases ix_cases (text.extract at_ text.size) t with hx | ⟨j, hx, hr⟩
  · rw [next_no _ t ht hx, hx, if_pos rfl, if_pos (by decide)]
    rfl
  · obtain ⟨p1, p2⟩ := pre_at text t at_ j hat hx
    have e0 : ((at_ : Int) + (j : Int)).toNat = at_ + j := by omega
    rw [next_at _ t ht hx, hx, if_neg (by omega : ¬ (j : Int) = -1), if_neg (by omega : ¬ (at_ : Int) + (j : Int) < 0), e0, p1, if_pos rfl]
    have ev : text.extract at_ (at_ + j) = (text.extract at_ text.size).extract 0 j := (ext_ext' text at_ 0 j (by omega)).symm
    have es : (text.extract at_ text.size).extract (j + t.size) (text.extract at_ text.size).size = text.extract (at_ + j + t.size) text.size := by
      rw [hs, ext_ext' text at_ (j + t.size) (text.size - at_) (by omega)]
      congr 1 <;> omega
    rw [ev, es]
    by_cases hv : valueB ((text.extract at_ text.size).extract 0 j) = true
    · rw [if_pos hv, step_ok _ _ _ _ _ hv, ← sortM_snoc]
      exact hrec _ _ p2
    · rw [if_neg hv, step_bad _ _ _ _ _ (by simpa using hv)]
      rfl
/-- From a hole's name on, both tell alike. -/
theorem both_loop (text : ByteArray) (tl : ByteArray) : ∀ (hs : List SHl), (∀ h ∈ hs, ¬ h.f0.toList = []) → ∀ (n : ByteArray) (h0 : SHl) (at_ : Nat) (out : List SL), h0.f1 = n → at_ ≤ text.size →
    finS text (specG text ((n, true) :: fromH tl hs) at_ (sortM out)) = finM (partsG (h0 :: (hs ++ [⟨tl, ⟨#[]⟩⟩])) (text.extract at_ text.size) out)
  | [], hne, n, h0, at_, out, hn, hat => by
    by_cases ht : tl.toList = []
    · have hs : (text.extract at_ text.size).size = text.size - at_ := by rw [ext_size]; omega
      rw [List.nil_append, parts_two]
      dsimp only
      rw [next_em _ tl ht, hn]
      have e : fromH tl [] = [] := by unfold fromH; rw [if_pos ht]
      rw [e]
      have e2 : specG text [(n, true)] at_ (sortM out) = if valueB (text.extract at_ text.size) = true then some (insM ⟨n, text.extract at_ text.size⟩ (sortM out), text.size) else none := by
        rw [spec_hole, show endW text at_ [] = (text.size : Int) from rfl, if_neg (by omega), Int.toNat_natCast]
        rfl
      rw [e2]
      by_cases hv : valueB (text.extract at_ text.size) = true
      · rw [if_pos hv, step_ok _ _ _ _ _ hv, ← sortM_snoc]
        show (sortM (out ++ [⟨n, text.extract at_ text.size⟩]), decide (text.size = text.size)) = (sortM (out ++ [⟨n, text.extract at_ text.size⟩]), emB ⟨#[]⟩)
        rw [decide_eq_true rfl]
        have e3 : emB ⟨#[]⟩ = true := decide_eq_true (by rw [← List.length_eq_zero_iff, size_list]; rfl)
        rw [e3]
      · rw [if_neg hv, step_bad _ _ _ _ _ (by simpa using hv)]
        rfl
    · have e : fromH tl [] = [(tl, false)] := by unfold fromH; rw [if_neg ht]
      rw [e]
      refine found_step text tl ht n h0 ⟨tl, ⟨#[]⟩⟩ hn rfl [] [] at_ hat out (fun at' out' h => ?_)
      show (sortM out', decide (at' = text.size)) = (sortM out', emB (text.extract at' text.size))
      rw [em_ext text at' h]
  | g :: rest, hne, n, h0, at_, out, hn, hat => by
    have hg := hne g (List.mem_cons_self ..)
    have e : fromH tl (g :: rest) = (g.f0, false) :: (g.f1, true) :: fromH tl rest := by
      conv => lhs; unfold fromH
      rw [if_neg hg]
      rfl
    rw [e]
    exact found_step text g.f0 hg n h0 g hn rfl _ _ at_ hat out (fun at' out' h => both_loop text tl rest (fun x hx => hne x (List.mem_cons_of_mem _ hx)) g.f1 g at' out' rfl h)
/-- A whole form. -/
theorem both_all (text tl : ByteArray) (h0 : SHl) (rest : List SHl) (hne : ∀ h ∈ rest, ¬ h.f0.toList = []) : finS text (specG text (encW (h0 :: rest) tl) 0 []) = partsM (h0 :: (rest ++ [⟨tl, ⟨#[]⟩⟩])) text := by
  have hr : rd_T49 (h0 :: (rest ++ [⟨tl, ⟨#[]⟩⟩])) 0 = h0 := rfl
  unfold partsM
  rw [hr, encW_fromH, cut_pre]
  conv => lhs; rw [fromH]
  have hs0 : ([] : List SL) = sortM [] := rfl
  by_cases he : h0.f0.toList = []
  · have hz : h0.f0.size = 0 := size_zero he
    have hp : preT text h0.f0 = true := by
      unfold preT
      rw [hz, decide_eq_true (Nat.zero_le _), Bool.true_and, he, beq_iff_eq, ← List.length_eq_zero_iff, size_list, ext_size]
      omega
    rw [if_pos he, hp, if_pos rfl, if_pos rfl, hz, List.nil_append, hs0]
    exact both_loop text tl rest hne h0.f1 h0 0 [] rfl (Nat.zero_le _)
  · rw [if_neg he, List.singleton_append]
    have e : specG text ((h0.f0, false) :: (h0.f1, true) :: fromH tl rest) 0 [] = if preT text h0.f0 = true then specG text ((h0.f1, true) :: fromH tl rest) h0.f0.size [] else none := by
      rw [spec_text, ext_all, Nat.zero_add]
    rw [e]
    by_cases hp : preT text h0.f0 = true
    · rw [if_pos hp, if_pos hp, if_pos rfl, hs0]
      have hle : h0.f0.size ≤ text.size := by
        unfold preT at hp
        simp only [Bool.and_eq_true, decide_eq_true_eq] at hp
        exact hp.1
      exact both_loop text tl rest hne h0.f1 h0 h0.f0.size [] rfl hle
    · rw [if_neg hp, if_neg hp, if_neg (show ¬ ((text, false) : ByteArray × Bool).2 = true from Bool.false_ne_true)]
      rfl
end Go.Proofs.Ytpnldoegchjmmaa.PartsEq
