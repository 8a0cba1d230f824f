/- KeepTraces, the program's and the reference's: of all policies and traces they keep the same. -/
import Derived.Test.YthcamcmjafhehaaDoorHKeep
import Derived.Test.YthcamcmjafhehaaDoorHMeets
import Derived.Test.YthcamcmjafhehaaDoorBFnExactKeepTraces
import Derived.Test.YthcamcmjafhehaaDoorAFnExactKeepTraces
import Derived.Test.YthcamcmjafhehaaDoorPFnExactKeepTracesx5
import Derived.Test.YthcamcmjafhehaaDoorEv
import Derived.IntWalk
namespace Go.Proofs.YthcamcmjafhehaaDoor.KeepPlain
open Go.RowKit Go.Proofs.YthcamcmjafhehaaDoor.PFnExactKeepTraces Go.Proofs.YthcamcmjafhehaaDoorW.PrintWords Go.Proofs.YthcamcmjafhehaaDoorW.PrintLast Go.Proofs.YthcamcmjafhehaaDoor.Evs Go.Proofs.YthcamcmjafhehaaDoor.AFnExactKeepTraces Go.Proofs.YthcamcmjafhehaaDoor.BFnExactKeepTraces Go.Proofs.YthcamcmjafhehaaDoor.Idx
set_option linter.unusedVariables false
set_option linter.unusedSimpArgs false
/-! ### numbers' texts -/
def bys (l : List UInt8) : ByteArray := ⟨l.toArray⟩
theorem bys_append (a b : List UInt8) : bys a ++ bys b = bys (a ++ b) := by
  apply ByteArray.ext
  simp [bys]
theorem bys_size (a : List UInt8) : (bys a).size = a.length := by simp [bys, ByteArray.size]
theorem nDigits_le {u : Nat} (h : u < 18446744073709551616) : Lib.nDigits u ≤ 20 := by
  by_cases h1 : 1 ≤ u
  · have := Lib.numDigits_eq u h1 h
    split at this <;> omega
  · have : u = 0 := by omega
    subst this
    rw [Lib.nDigits_small (by omega)]
    omega
theorem one_digit (d : Nat) (h : d < 10) : strOfNums [(48 + (d : Int)) % 256] = bys [UInt8.ofNat (48 + d)] := by
  unfold strOfNums bys
  have e : ((48 + (d : Int)) % 256).toNat = 48 + d := by omega
  simp [e]
theorem l0_end (k : Nat) (x3 : ByteArray) (b : Bool) (h : x3.size ≤ 20) : spec_l2Num.l0 (k + 1) 0 x3 b = some (if b = true then bys [45] ++ x3 else x3) := by
  unfold spec_l2Num.l0
  rw [if_pos rfl]
  split
  · rw [if_pos (by omega)]; rfl
  · rfl
theorem l0_pos (b : Bool) : ∀ (k u : Nat) (l : List UInt8), 0 < u → u ≤ 9223372036854775807 → Lib.nDigits u + 1 ≤ k → l.length + Lib.nDigits u ≤ 20 →
    spec_l2Num.l0 k (u : Int) (bys l) b = some (if b = true then bys [45] ++ bys (Lib.decDigits u ++ l) else bys (Lib.decDigits u ++ l))
  | 0, u, l, _, _, h, _ => by omega
  | k + 1, u, l, h0, h1, h2, h3 => by
    have t1 : Int.tmod (u : Int) 10 = ((u % 10 : Nat) : Int) := rfl
    have t2 : Int.tdiv (u : Int) 10 = ((u / 10 : Nat) : Int) := rfl
    simp only [spec_l2Num.l0, t1, t2]
    rw [if_neg (by omega), if_neg (by omega), Evs.w64 (x := 48 + ((u % 10 : Nat) : Int)) (by omega) (by omega), Evs.w64 (x := ((u / 10 : Nat) : Int)) (by omega) (by omega)]
    simp only [Option.bind_some]
    rw [one_digit _ (Nat.mod_lt _ (by omega)), bys_append, bys_size, bys_size]
    have hd1 : 1 ≤ Lib.nDigits u := by
      by_cases h10 : u < 10
      · rw [Lib.nDigits_small h10]; omega
      · rw [Lib.nDigits_big h10]; omega
    rw [if_pos (by simp only [List.length_singleton]; omega)]
    by_cases h10 : u < 10
    · have e0 : u / 10 = 0 := by omega
      have em : u % 10 = u := by omega
      rw [e0, em]
      rw [Lib.nDigits_small h10] at h2 h3
      obtain ⟨k', rfl⟩ : ∃ k', k = k' + 1 := ⟨k - 1, by omega⟩
      have := l0_end k' (bys ([UInt8.ofNat (48 + u)] ++ l)) b (by rw [bys_size]; simp; omega)
      rw [Lib.decDigits_one h10]
      exact this
    · rw [Lib.nDigits_big h10] at h2 h3
      rw [l0_pos b k (u / 10) ([UInt8.ofNat (48 + u % 10)] ++ l) (by omega) (by omega) (by omega) (by simp; omega)]
      have e : Lib.decDigits u = Lib.decDigits (u / 10) ++ [UInt8.ofNat (48 + u % 10)] := by rw [Lib.decDigits, dif_neg h10]
      rw [e]
      simp
theorem numB_nat (u : Nat) : numB (u : Int) = bys (Lib.decDigits u) := by unfold numB bys; rw [Lib.itoa_nonneg]
theorem numB_size (u : Nat) (h : u < 18446744073709551616) : (numB (u : Int)).size ≤ 20 := by rw [numB_nat, bys_size, Lib.decDigits_length]; exact nDigits_le h
theorem l2Num_nat (k u : Nat) (hk : 30 ≤ k) (h : u ≤ 9223372036854775807) : spec_l2Num.f k (u : Int) = some (numB (u : Int)) := by
  unfold spec_l2Num.f
  have hd := nDigits_le (u := u) (by omega)
  by_cases h0 : u = 0
  · subst h0
    rw [if_pos (by rfl), numB_nat, Lib.decDigits_one (by omega)]
    rfl
  · rw [if_neg (by omega)]
    have e : decide ((u : Int) < 0) = false := decide_eq_false (by omega)
    have := l0_pos false k u [] (by omega) h (by omega) (by simpa using hd)
    have hb : (⟨#[]⟩ : ByteArray) = bys [] := rfl
    rw [e, numB_nat, hb]
    simpa using this
theorem digits_in (n : Int) (h : -9223372036854775808 ≤ n ∧ n ≤ 9223372036854775807) : impl_digitsOf.f n = some (numB n) := by
  unfold impl_digitsOf.f strconv_Itoa_50.f
  rw [if_pos h]
  rfl
/-! ### the mixing -/
theorem xor_in (a b : Int) : 0 ≤ Go.bits .xor .u64 a b ∧ Go.bits .xor .u64 a b < 18446744073709551616 := by
  unfold Go.bits
  rw [IntKind.wrap_u64]
  omega
theorem wsucc (i : Nat) (h : (i : Int) ≤ 5000000000000) : wrap64 ((i : Int) + 1) = ((i + 1 : Nat) : Int) := by rw [Evs.w64 (by omega) (by omega)]; omega
theorem mix_loop (l : List Int) (hl : l.length ≤ 1048576) : ∀ (d i : Nat) (x : Int), i + d = l.length → 0 ≤ x → x < 18446744073709551616 → ∃ m, EvP (fun k => impl_Mix.l0 k x l (l.length : Int) (i : Int)) (fun r => r = m) ∧ EvP (fun k => spec_Mix.l0 k x l (l.length : Int) (i : Int)) (fun r => r = m) := by
  intro d
  induction d with
  | zero =>
    intro i x h h0 h1
    refine ⟨wrap64 (x / 2), EvP.step ?_, EvP.step ?_⟩
    · simp only [impl_Mix.l0]
      exact EvP.neg (by omega) (EvP.now rfl)
    · simp only [spec_Mix.l0]
      refine EvP.neg (by omega) (EvP.now ?_)
      rw [Int.tdiv_eq_ediv_of_nonneg h0, IntKind.wrap_u64, show x / 2 % 18446744073709551616 = x / 2 by omega]
  | succ d ih =>
    intro i x h h0 h1
    obtain ⟨m, e1, e2⟩ := ih (i + 1) (Go.bits .xor .u64 (IntKind.u64.wrap ((Go.bits .xor .u64 x (IntKind.u64.wrap (rd l (i : Int)))) * 1099511628211)) ((IntKind.u64.wrap ((Go.bits .xor .u64 x (IntKind.u64.wrap (rd l (i : Int)))) * 1099511628211)) / 536870912)) (by omega) (xor_in _ _).1 (xor_in _ _).2
    refine ⟨m, EvP.step ?_, EvP.step ?_⟩
    · simp only [impl_Mix.l0]
      rw [wsucc i (by omega)]
      exact EvP.pos (by omega) (EvP.pos (by omega) (EvP.pos (by omega) e1))
    · simp only [spec_Mix.l0]
      rw [wsucc i (by omega)]
      exact EvP.pos (by omega) (EvP.pos (by omega) (EvP.pos (by omega) e2))
theorem mix_both (l : List Int) (hl : l.length ≤ 1048576) : ∃ m, EvP (fun k => impl_Mix.f k l) (fun r => r = m) ∧ EvP (fun k => spec_Mix.f k l) (fun r => r = m) := by
  unfold impl_Mix.f spec_Mix.f
  exact mix_loop l hl l.length 0 1469598103 (by omega) (by omega) (by omega)
/-! ### policies -/
/-- A policy that is not good. -/
def badB (x : SPo) : Bool :=
  if x.f0 = 1 then !(decide (x.f1 = 0) && x.f2.toList.isEmpty)
  else if x.f0 = 2 then !(timeB x.f1 && x.f2.toList.isEmpty)
  else if x.f0 = 3 then !(decide (x.f1 = 0) && nameB x.f2)
  else if x.f0 = 4 then !(decide (1 ≤ x.f1) && decide (x.f1 ≤ 1000) && x.f2.toList.isEmpty)
  else if x.f0 = 5 then !(decide (0 ≤ x.f1) && decide (x.f1 ≤ 1000) && x.f2.toList.isEmpty)
  else true

theorem bad_ev (x : SPo) : EvP (fun k => impl_GoodPolicies_1.f k x.f0 x.f1 x.f2) (fun r => r = badB x) := by
  unfold impl_GoodPolicies_1.f badB
  refine EvP.ite (fun h1 => ?_) (fun h1 => EvP.ite (fun h2 => ?_) (fun h2 => EvP.ite (fun h3 => ?_) (fun h3 => EvP.ite (fun h4 => ?_) (fun h4 => EvP.ite (fun h5 => ?_) (fun h5 => ?_)))))
  · rw [if_pos h1]
    exact EvP.ite (fun h => EvP.now (by simp [h, bne])) (fun h => EvP.now (by simp [h]))
  · rw [if_neg h1, if_pos h2]
    simp only [impl_isTime_ev, Option.bind_some]
    exact EvP.ite (fun h => EvP.now (by simp [h, bne])) (fun h => EvP.now (by simp [h]))
  · rw [if_neg h1, if_neg h2, if_pos h3]
    exact EvP.ite (fun h => EvP.bind (impl_isName_ev _) (fun a e => EvP.now (by simp [h, e]))) (fun h => EvP.now (by simp [h]))
  · rw [if_neg h1, if_neg h2, if_neg h3, if_pos h4]
    exact EvP.ite (fun h => EvP.now (by simp [show ¬ (1 ≤ x.f1) by omega])) (fun h => EvP.ite (fun h' => EvP.now (by simp [show ¬ (x.f1 ≤ 1000) by omega])) (fun h' => EvP.now (by simp [show 1 ≤ x.f1 by omega, show x.f1 ≤ 1000 by omega, bne])))
  · rw [if_neg h1, if_neg h2, if_neg h3, if_neg h4, if_pos h5]
    exact EvP.ite (fun h => EvP.now (by simp [show ¬ (0 ≤ x.f1) by omega])) (fun h => EvP.ite (fun h' => EvP.now (by simp [show ¬ (x.f1 ≤ 1000) by omega])) (fun h' => EvP.now (by simp [show 0 ≤ x.f1 by omega, show x.f1 ≤ 1000 by omega, bne])))
  · rw [if_neg h1, if_neg h2, if_neg h3, if_neg h4, if_neg h5]
    exact EvP.now rfl

theorem any_ev {α : Type} (g : Nat → α → Option Bool) (p : α → Bool) : ∀ l : List α, (∀ x, EvP (fun k => g k x) (fun r => r = p x)) → EvP (fun k => anyM (g k) l) (fun r => r = l.any p)
  | [], _ => EvP.now rfl
  | x :: xs, h => by
    simp only [anyM, List.any_cons]
    refine EvP.bind (h x) (fun a e => ?_)
    subst e
    refine EvP.ite (fun hp => EvP.now (by simp [hp])) (fun hp => (any_ev g p xs h).imp (fun r e => by rw [e]; simp [hp]))

theorem goodP_ev (l : List SPo) : EvP (fun k => impl_GoodPolicies.f k l) (fun r => r = (decide (l.length ≤ 10) && !l.any badB)) := by
  unfold impl_GoodPolicies.f any_impl_GoodPolicies_1_44.f
  refine EvP.ite (fun h => EvP.bind (any_ev _ badB l bad_ev) (fun a e => EvP.now (by rw [e, decide_eq_true (show l.length ≤ 10 by omega)]; rfl))) (fun h => EvP.now (by rw [decide_eq_false (show ¬ l.length ≤ 10 by omega)]; rfl))

theorem goodS_loop (l : List SPo) (hl : l.length ≤ 1048576) : ∀ (d i : Nat), i + d = l.length → EvP (fun k => spec_GoodPolicies.l0 k l l (l.length : Int) (i : Int)) (fun r => r = (!(l.drop i).any badB && decide (l.length ≤ 10))) := by
  intro d
  induction d with
  | zero =>
    intro i h
    refine EvP.step ?_
    simp only [spec_GoodPolicies.l0]
    refine EvP.neg (by omega) (EvP.now ?_)
    rw [List.drop_of_length_le (by omega)]
    simp only [List.any_nil, Bool.not_false, Bool.true_and, decide_eq_decide]
    omega
  | succ d ih =>
    intro i h
    have hi : i < l.length := by omega
    have hn := ih (i + 1) (by omega)
    refine EvP.step ?_
    simp only [spec_GoodPolicies.l0, wrap_succ hi hl, rdT52 l i hi, spec_l3Time_ev, Option.bind_some]
    refine EvP.pos (by omega) (EvP.pos (by omega) (EvP.pos (by omega) ?_))
    rw [List.drop_eq_getElem_cons hi, List.any_cons]
    generalize l[i] = x
    have no : badB x = true → EvP (fun _ => some false) (fun r => r = (!(badB x || (l.drop (i + 1)).any badB) && decide (l.length ≤ 10))) := fun hb => EvP.now (by simp [hb])
    have yes : badB x = false → EvP (fun k => spec_GoodPolicies.l0 k l l (l.length : Int) ((i + 1 : Nat) : Int)) (fun r => r = (!(badB x || (l.drop (i + 1)).any badB) && decide (l.length ≤ 10))) := fun hb => by rw [hb]; simpa using hn
    refine EvP.ite (fun h1 => ?_) (fun h1 => EvP.ite (fun h2 => ?_) (fun h2 => EvP.ite (fun h3 => ?_) (fun h3 => EvP.ite (fun h4 => ?_) (fun h4 => EvP.ite (fun h5 => ?_) (fun h5 => ?_)))))
    · refine EvP.ite (fun a => EvP.ite (fun b => yes ?_) (fun b => no ?_)) (fun a => no ?_) <;> clear no yes hn ih <;> unfold badB <;> rw [if_pos h1] <;> simp_all
    · refine EvP.ite (fun a => EvP.ite (fun b => yes ?_) (fun b => no ?_)) (fun a => no ?_) <;> clear no yes hn ih <;> unfold badB <;> rw [if_neg h1, if_pos h2] <;> simp_all
    · refine EvP.ite (fun a => EvP.bind (spec_l2Name_ev _) (fun t e => EvP.ite (fun b => yes ?_) (fun b => no ?_))) (fun a => no ?_) <;> clear no yes hn ih <;> unfold badB <;> rw [if_neg h1, if_neg h2, if_pos h3] <;> simp_all
    · refine EvP.ite (fun a => EvP.ite (fun b => EvP.ite (fun c => yes ?_) (fun c => no ?_)) (fun b => no ?_)) (fun a => no ?_) <;> clear no yes hn ih <;> unfold badB <;> rw [if_neg h1, if_neg h2, if_neg h3, if_pos h4] <;> simp_all <;> omega
    · refine EvP.ite (fun a => EvP.ite (fun b => EvP.ite (fun c => yes ?_) (fun c => no ?_)) (fun b => no ?_)) (fun a => no ?_) <;> clear no yes hn ih <;> unfold badB <;> rw [if_neg h1, if_neg h2, if_neg h3, if_neg h4, if_pos h5] <;> simp_all <;> omega
    · refine no ?_
      unfold badB
      rw [if_neg h1, if_neg h2, if_neg h3, if_neg h4, if_neg h5]

/-! ### one policy, one trace -/
theorem kinds {p : SPo} (h : badB p = false) : p.f0 = 1 ∨ p.f0 = 2 ∨ p.f0 = 3 ∨ p.f0 = 4 ∨ p.f0 = 5 := by
  unfold badB at h
  by_cases h1 : p.f0 = 1; exact .inl h1
  by_cases h2 : p.f0 = 2; exact .inr (.inl h2)
  by_cases h3 : p.f0 = 3; exact .inr (.inr (.inl h3))
  by_cases h4 : p.f0 = 4; exact .inr (.inr (.inr (.inl h4)))
  by_cases h5 : p.f0 = 5; exact .inr (.inr (.inr (.inr h5)))
  rw [if_neg h1, if_neg h2, if_neg h3, if_neg h4, if_neg h5] at h
  cases h
theorem any_congr {α : Type} {p q : α → Bool} (l : List α) (h : ∀ x, p x = q x) : l.any p = l.any q := by rw [show p = q from funext h]
theorem meets_both (p : SPo) (t : STr) (hp : badB p = false) (h0 : 1 ≤ t.f0) (h1 : t.f0 ≤ 9223372036854775807) (hl : 0 < t.f1.length) (hl2 : t.f1.length ≤ 100) :
    ∃ m, EvP (fun k => spec_l23Meets.f k p.f0 p.f1 p.f2 t.f0 t.f1) (fun r => r = m) ∧ EvP (fun k => meetsM k p.f0 p.f1 p.f2 t.f0 t.f1) (fun r => r = m) := by
  unfold spec_l23Meets.f meetsM
  rcases kinds hp with e | e | e | e | e <;> rw [e]
  · refine ⟨t.f1.any fun x => x.f6, ?_, EvP.pos rfl (EvP.now rfl)⟩
    exact EvP.neg (by decide) (EvP.neg (by decide) (EvP.neg (by decide) (EvP.pos (by omega) (EvP.now (any_congr _ (fun x => takes_1 _ x))))))
  · exact ⟨_, EvP.pos rfl (EvP.pos hl (EvP.now rfl)), EvP.neg (by decide) (EvP.pos rfl (EvP.pos hl (EvP.now rfl)))⟩
  · refine ⟨t.f1.any fun x => x.f2.toList == p.f2.toList, ?_, EvP.neg (by decide) (EvP.neg (by decide) (EvP.pos rfl (EvP.now rfl)))⟩
    exact EvP.neg (by decide) (EvP.neg (by decide) (EvP.neg (by decide) (EvP.pos (by omega) (EvP.now (any_congr _ (fun x => takes_3 _ x))))))
  · obtain ⟨u, hu⟩ : ∃ u : Nat, t.f0 = (u : Int) := ⟨t.f0.toNat, by omega⟩
    have hz := numB_size u (by omega)
    obtain ⟨m, m1, m2⟩ := mix_both (bytesOf (numB (u : Int))) (by rw [bytesOf_length]; omega)
    refine ⟨decide (Int.tmod m 1000 < p.f1), ?_, ?_⟩
    · refine EvP.neg (by decide) (EvP.pos rfl (EvP.bind (P := fun r => r = numB (u : Int)) ?_ (fun s es => ?_)))
      · refine ⟨numB (u : Int), ⟨30, fun k hk => ?_⟩, rfl⟩
        rw [hu]
        exact l2Num_nat k u hk (by omega)
      · subst es
        exact EvP.pos (by omega) (EvP.bind m2 (fun q eq => EvP.now (by rw [eq])))
    · rw [hu, digits_in (u : Int) (by omega)]
      refine EvP.neg (by decide) (EvP.neg (by decide) (EvP.neg (by decide) (EvP.pos rfl (EvP.bind (P := fun r => r = numB (u : Int)) (EvP.now rfl) (fun s es => ?_)))))
      subst es
      exact EvP.pos (by omega) (EvP.bind m1 (fun q eq => EvP.now (by rw [eq])))
  · exact ⟨true, EvP.neg (by decide) (EvP.neg (by decide) (EvP.pos rfl (EvP.now rfl))), EvP.neg (by decide) (EvP.neg (by decide) (EvP.neg (by decide) (EvP.neg (by decide) (EvP.now rfl))))⟩
/-! ### all of them -/
theorem bump_len (came : List Int) (j : Nat) : (bumpM came j).length = came.length := by unfold bumpM; rw [List.length_set]
theorem pol_both (pol : List SPo) (hpl : pol.length ≤ 10) (hgood : ∀ p ∈ pol, badB p = false) (tr : List STr) (t : STr) (h0 : 1 ≤ t.f0) (h1 : t.f0 ≤ 9223372036854775807) (hl : 0 < t.f1.length) (hl2 : t.f1.length ≤ 100) (out : List Bool) (hol : out.length ≤ 100) (i : Nat) (came : List Int) (hcl : came.length = pol.length) :
    ∀ (d j : Nat), j + d = pol.length → ∃ r : List Int × Bool, EvP (fun k => polM k t (pol.drop j) j came) (fun q => q = r) ∧ r.1.length = came.length ∧ ∀ Q : List Bool → Prop, EvP (fun k => spec_KeepTraces.l0 k pol (out ++ [r.2]) r.1 tr (tr.length : Int) (wrap64 ((i : Int) + 1))) Q → EvP (fun k => spec_KeepTraces.l1 k pol out came false tr (tr.length : Int) (i : Int) pol (pol.length : Int) (j : Int) t.f0 t.f1) Q := by
  intro d
  induction d with
  | zero =>
    intro j h
    have e : j = pol.length := by omega
    subst e
    rw [List.drop_length]
    refine ⟨(came, false), EvP.now rfl, rfl, fun Q hQ => EvP.step ?_⟩
    simp only [spec_KeepTraces.l1]
    exact EvP.neg (by omega) (EvP.pos (by omega) hQ)
  | succ d ih =>
    intro j h
    have hj : j < pol.length := by omega
    have hr : rd_T52 pol (j : Int) = pol[j] := rdT52 pol j hj
    obtain ⟨m, m1, m2⟩ := meets_both pol[j] t (hgood _ (List.getElem_mem hj)) h0 h1 hl hl2
    rw [List.drop_eq_getElem_cons hj]
    cases m with
    | true =>
      refine ⟨(bumpM came j, if pol[j].f0 = 5 then decide (rd (bumpM came j) (j : Int) ≤ pol[j].f1) else true), ?_, bump_len came j, fun Q hQ => EvP.step ?_⟩
      · simp only [polM]
        exact EvP.bind m2 (fun q e => by subst e; exact EvP.pos rfl (EvP.now rfl))
      · simp only [spec_KeepTraces.l1, hr]
        refine EvP.pos (by omega) (EvP.pos (by omega) (EvP.pos (by omega) (EvP.bind m1 (fun q e => ?_))))
        subst e
        refine EvP.pos rfl (EvP.pos (by omega) (EvP.bind (P := fun y => y = bumpM came j) (EvP.now (by rw [Int.toNat_natCast]; rfl)) (fun y ey => ?_)))
        subst ey
        by_cases e5 : pol[j].f0 = 5
        · rw [if_pos e5] at hQ
          exact EvP.pos e5 (EvP.pos (by omega) hQ)
        · rw [if_neg e5] at hQ
          exact EvP.neg e5 (EvP.pos (by omega) hQ)
    | false =>
      obtain ⟨r, r1, r2, r3⟩ := ih (j + 1) (by omega)
      refine ⟨r, ?_, r2, fun Q hQ => EvP.step ?_⟩
      · simp only [polM]
        exact EvP.bind m2 (fun q e => by subst e; exact EvP.neg (by decide) r1)
      · simp only [spec_KeepTraces.l1, hr]
        refine EvP.pos (by omega) (EvP.pos (by omega) (EvP.pos (by omega) (EvP.bind m1 (fun q e => ?_))))
        subst e
        rw [wsucc j (by omega)]
        exact EvP.neg (by decide) (r3 Q hQ)
structure TrOk (t : STr) : Prop where
  lo : 1 ≤ t.f0
  hi : t.f0 ≤ 9223372036854775807
  some : 0 < t.f1.length
  few : t.f1.length ≤ 100
theorem tr_both (pol : List SPo) (hpl : pol.length ≤ 10) (hgood : ∀ p ∈ pol, badB p = false) (tr : List STr) (htl : tr.length ≤ 50) (hok : ∀ t ∈ tr, TrOk t) :
    ∀ (d i : Nat) (came : List Int) (out : List Bool), i + d = tr.length → came.length = pol.length → out.length = i → ∃ o : List Bool, o.length = tr.length ∧ EvP (fun k => trM k pol (tr.drop i) came out) (fun r => r = o) ∧ EvP (fun k => spec_KeepTraces.l0 k pol out came tr (tr.length : Int) (i : Int)) (fun r => r = o) := by
  intro d
  induction d with
  | zero =>
    intro i came out h hc ho
    have e : i = tr.length := by omega
    subst e
    rw [List.drop_length]
    refine ⟨out, ho, EvP.now rfl, EvP.step ?_⟩
    simp only [spec_KeepTraces.l0]
    exact EvP.neg (by omega) (EvP.now rfl)
  | succ d ih =>
    intro i came out h hc ho
    have hi : i < tr.length := by omega
    have hr : rd_T51 tr (i : Int) = tr[i] := rdT51 tr i hi
    have ht := hok _ (List.getElem_mem hi)
    obtain ⟨r, r1, r2, r3⟩ := pol_both pol hpl hgood tr tr[i] ht.lo ht.hi ht.some ht.few out (by omega) i came hc pol.length 0 (by omega)
    obtain ⟨o, o1, o2, o3⟩ := ih (i + 1) r.1 (out ++ [r.2]) (by omega) (by rw [r2, hc]) (by simp [ho])
    rw [List.drop_zero] at r1
    refine ⟨o, o1, ?_, EvP.step ?_⟩
    · rw [List.drop_eq_getElem_cons hi]
      simp only [trM]
      exact EvP.bind r1 (fun q e => by subst e; exact o2)
    · simp only [spec_KeepTraces.l0, hr]
      refine EvP.pos (by omega) (EvP.pos (by omega) (EvP.pos (by omega) (r3 _ ?_)))
      rw [wsucc i (by omega)]
      exact o3
theorem traces_loop (tr : List STr) (hl : tr.length ≤ 1048576) : ∀ (d i : Nat), i + d = tr.length → EvP (fun k => spec_l23Traces.l0 k tr tr (tr.length : Int) (i : Int)) (fun r => r = (!((tr.drop i).any fun t => !goodTraceB t.f0 t.f1) && decide (tr.length ≤ 50))) := by
  intro d
  induction d with
  | zero =>
    intro i h
    have e : i = tr.length := by omega
    subst e
    rw [List.drop_length]
    refine EvP.step ?_
    simp only [spec_l23Traces.l0]
    refine EvP.neg (by omega) (EvP.now ?_)
    simp only [List.any_nil, Bool.not_false, Bool.true_and, decide_eq_decide]
    omega
  | succ d ih =>
    intro i h
    have hi : i < tr.length := by omega
    have hr : rd_T51 tr (i : Int) = tr[i] := rdT51 tr i hi
    rw [List.drop_eq_getElem_cons hi, List.any_cons]
    refine EvP.step ?_
    simp only [spec_l23Traces.l0, hr, wsucc i (by omega)]
    unfold spec_GoodTrace.f
    refine EvP.pos (by omega) (EvP.pos (by omega) (EvP.pos (by omega) (EvP.bind (P := fun q => q = goodTraceB tr[i].f0 tr[i].f1) (EvP.now rfl) (fun q e => ?_))))
    subst e
    refine EvP.ite (fun hg => ?_) (fun hg => ?_)
    · rw [hg]
      simpa using ih (i + 1) (by omega)
    · rw [Bool.eq_false_iff.2 hg]
      exact EvP.now (by simp)
theorem good_parts {id : Int} {l : List SC} (h : goodTraceB id l = true) : 1 ≤ id ∧ 0 < l.length ∧ l.length ≤ 100 := by
  unfold goodTraceB at h
  simp only [Bool.and_eq_true, decide_eq_true_iff] at h
  omega
theorem both (pol : List SPo) (hpl : pol.length ≤ 1048576) (tr : List STr) (htl : tr.length ≤ 1048576) (hwf : ∀ t ∈ tr, t.f1.all wfCall = true ∧ t.f0 ≤ 9223372036854775807) :
    ∃ o : List Bool, o.length ≤ 50 ∧ EvP (fun k => spec_KeepTraces.f k pol tr) (fun r => r = o) ∧ EvP (fun k => impl_KeepTraces.f k pol tr) (fun r => r = o) := by
  have hS := goodS_loop pol hpl pol.length 0 (by omega)
  have hP := goodP_ev pol
  have hT := traces_loop tr htl tr.length 0 (by omega)
  rw [List.drop_zero] at hS hT
  have hnil : EvP (fun k => spec_KeepTraces.j0 k pol tr true) (fun r => r = []) := by
    refine EvP.step ?_
    simp only [spec_KeepTraces.j0]
    exact EvP.pos (by first | rfl | trivial) (EvP.now rfl)
  by_cases hg : (decide (pol.length ≤ 10) && !pol.any badB) = true
  case neg =>
    have e : (decide (pol.length ≤ 10) && !pol.any badB) = false := Bool.eq_false_iff.2 hg
    refine ⟨[], by simp, ?_, ?_⟩
    · unfold spec_KeepTraces.f spec_GoodPolicies.f
      refine EvP.bind hS (fun q eq => ?_)
      rw [Bool.and_comm, e] at eq
      subst eq
      exact EvP.neg (by decide) hnil
    · unfold impl_KeepTraces.f
      refine EvP.bind hP (fun q eq => ?_)
      rw [e] at eq
      subst eq
      exact EvP.neg (by decide) (EvP.now rfl)
  have hall : pol.length ≤ 10 ∧ ∀ p ∈ pol, badB p = false := by
    rw [Bool.and_eq_true, decide_eq_true_iff, Bool.not_eq_true'] at hg
    refine ⟨hg.1, fun p hp => ?_⟩
    have := List.any_eq_false.1 hg.2 p hp
    simpa using this
  have hany : EvP (fun k : Nat => Idx.anyM (fun (x : STr) => impl_KeepTraces_1.f x.f0 x.f1) tr) (fun r => r = tr.any fun t => !goodTraceB t.f0 t.f1) := by
    have gen : ∀ l : List STr, (∀ t ∈ l, t.f1.all wfCall = true) → Idx.anyM (fun (x : STr) => impl_KeepTraces_1.f x.f0 x.f1) l = some (l.any fun t => !goodTraceB t.f0 t.f1) := by
      intro l
      induction l with
      | nil => intro _; rfl
      | cons x xs ih =>
        intro hw
        have e : impl_KeepTraces_1.f x.f0 x.f1 = some (!goodTraceB x.f0 x.f1) := by
          unfold impl_KeepTraces_1.f impl_GoodTrace.f
          rw [if_pos (hw x (List.mem_cons_self ..))]
          rfl
        simp only [Idx.anyM, e, Option.bind_some, List.any_cons]
        cases hg : goodTraceB x.f0 x.f1 with
        | false => rfl
        | true =>
          have := ih (fun t ht => hw t (List.mem_cons_of_mem _ ht))
          simpa using this
    rw [gen tr (fun t ht => (hwf t ht).1)]
    exact EvP.now rfl
  by_cases hlen : tr.length ≤ 50
  case neg =>
    refine ⟨[], by simp, ?_, ?_⟩
    · unfold spec_KeepTraces.f spec_GoodPolicies.f spec_l23Traces.f
      refine EvP.bind hS (fun q eq => ?_)
      rw [Bool.and_comm, hg] at eq
      subst eq
      refine EvP.pos rfl (EvP.bind hT (fun q eq => ?_))
      rw [decide_eq_false hlen, Bool.and_false] at eq
      subst eq
      exact hnil
    · unfold impl_KeepTraces.f
      refine EvP.bind hP (fun q eq => ?_)
      rw [hg] at eq
      subst eq
      exact EvP.pos rfl (EvP.pos (by omega) (EvP.now rfl))
  by_cases hbad : (tr.any fun t => !goodTraceB t.f0 t.f1) = true
  case pos =>
    refine ⟨[], by simp, ?_, ?_⟩
    · unfold spec_KeepTraces.f spec_GoodPolicies.f spec_l23Traces.f
      refine EvP.bind hS (fun q eq => ?_)
      rw [Bool.and_comm, hg] at eq
      subst eq
      refine EvP.pos rfl (EvP.bind hT (fun q eq => ?_))
      rw [hbad] at eq
      subst eq
      exact hnil
    · unfold impl_KeepTraces.f
      refine EvP.bind hP (fun q eq => ?_)
      rw [hg] at eq
      subst eq
      refine EvP.pos rfl (EvP.neg (by omega) (EvP.bind hany (fun q eq => ?_)))
      rw [hbad] at eq
      subst eq
      exact EvP.pos rfl (EvP.now rfl)
  have hb : (tr.any fun t => !goodTraceB t.f0 t.f1) = false := Bool.eq_false_iff.2 hbad
  have hok : ∀ t ∈ tr, TrOk t := fun t ht => by
    have h1 := List.any_eq_false.1 hb t ht
    have h2 := good_parts (id := t.f0) (l := t.f1) (by simpa using h1)
    exact ⟨h2.1, (hwf t ht).2, h2.2.1, h2.2.2⟩
  obtain ⟨o, o1, o2, o3⟩ := tr_both pol hall.1 hall.2 tr hlen hok tr.length 0 (List.replicate pol.length 0) [] (by omega) List.length_replicate rfl
  refine ⟨o, by omega, ?_, ?_⟩
  · unfold spec_KeepTraces.f spec_GoodPolicies.f spec_l23Traces.f
    refine EvP.bind hS (fun q eq => ?_)
    rw [Bool.and_comm, hg] at eq
    subst eq
    refine EvP.pos rfl (EvP.bind hT (fun q eq => ?_))
    rw [hb, decide_eq_true hlen] at eq
    subst eq
    refine EvP.step ?_
    simp only [spec_KeepTraces.j0]
    refine EvP.neg (by decide) (EvP.pos (by omega) (EvP.pos (by omega) ?_))
    rw [Int.toNat_natCast]
    exact o3
  · unfold impl_KeepTraces.f
    refine EvP.bind hP (fun q eq => ?_)
    rw [hg] at eq
    subst eq
    refine EvP.pos rfl (EvP.neg (by omega) (EvP.bind hany (fun q eq => ?_)))
    rw [hb] at eq
    subst eq
    rw [List.drop_zero] at o2
    exact EvP.neg (by decide) (EvP.pos (by omega) o2)
end Go.Proofs.YthcamcmjafhehaaDoor.KeepPlain
