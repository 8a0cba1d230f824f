/- The plain law of UnitText: what the two walks compute is one text, at every value and unit. -/
import Derived.Test.YtdmhdnagaoiclaaDoorHUnit
import Derived.Test.YtdmhdnagaoiclaaDoorPFnExactUnitTextx2
import Derived.IntWalk
namespace Go.Proofs.YtdmhdnagaoiclaaDoor.PFnExactUnitText
open Go.RowKit Go.Proofs.YtdmhdnagaoiclaaDoorW.PrintWords Go.Proofs.YtdmhdnagaoiclaaDoorW.PrintLast Go.Proofs.YtdmhdnagaoiclaaDoorW.PrintMore
set_option linter.unusedVariables false
set_option linter.unusedSimpArgs false
def bys (l : List UInt8) : ByteArray := ⟨l.toArray⟩
theorem bys_append (a b : List UInt8) : bys a ++ bys b = bys (a ++ b) := by
  apply ByteArray.ext
  simp [bys]
theorem bys_size (a : List UInt8) : (bys a).size = a.length := by simp [bys, ByteArray.size]
theorem w64 (n : Int) (h : -9223372036854775808 ≤ n ∧ n ≤ 9223372036854775807) : wrap64 n = n := by unfold wrap64; omega
theorem nDigits_le {u : Nat} (h : u < 18446744073709551616) : Lib.nDigits u ≤ 20 := by
  by_cases h1 : 1 ≤ u
  · have := Lib.numDigits_eq u h1 h
    split at this <;> omega
  · have : u = 0 := by omega
    subst this
    rw [Lib.nDigits_small (by omega)]
    omega
theorem one_digit (d : Nat) (h : d < 10) : strOfNums [(48 + (d : Int)) % 256] = bys [UInt8.ofNat (48 + d)] := by
  unfold strOfNums bys
  have e : ((48 + (d : Int)) % 256).toNat = 48 + d := by omega
  simp [e]
theorem l0_end (k : Nat) (x3 : ByteArray) (b : Bool) (h : x3.size ≤ 20) : spec_l2Num.l0 (k + 1) 0 x3 b = some (if b = true then bys [45] ++ x3 else x3) := by
  unfold spec_l2Num.l0
  rw [if_pos rfl]
  split
  · rw [if_pos (by omega)]; rfl
  · rfl
theorem l0_pos (b : Bool) : ∀ (k u : Nat) (l : List UInt8), 0 < u → u ≤ 9223372036854775807 → Lib.nDigits u + 1 ≤ k → l.length + Lib.nDigits u ≤ 20 →
    spec_l2Num.l0 k (u : Int) (bys l) b = some (if b = true then bys [45] ++ bys (Lib.decDigits u ++ l) else bys (Lib.decDigits u ++ l))
  | 0, u, l, _, _, h, _ => by omega
  | k + 1, u, l, h0, h1, h2, h3 => by
    have t1 : Int.tmod (u : Int) 10 = ((u % 10 : Nat) : Int) := rfl
    have t2 : Int.tdiv (u : Int) 10 = ((u / 10 : Nat) : Int) := rfl
    simp only [spec_l2Num.l0, t1, t2]
    rw [if_neg (by omega), if_neg (by omega), w64 (48 + ((u % 10 : Nat) : Int)) (by omega), w64 _ (by omega)]
    simp only [Option.bind_some]
    rw [one_digit _ (Nat.mod_lt _ (by omega)), bys_append, bys_size, bys_size]
    have hd1 : 1 ≤ Lib.nDigits u := by
      by_cases h10 : u < 10
      · rw [Lib.nDigits_small h10]; omega
      · rw [Lib.nDigits_big h10]; omega
    rw [if_pos (by simp only [List.length_singleton]; omega)]
    by_cases h10 : u < 10
    · have e0 : u / 10 = 0 := by omega
      have em : u % 10 = u := by omega
      rw [e0, em]
      rw [Lib.nDigits_small h10] at h2 h3
      obtain ⟨k', rfl⟩ : ∃ k', k = k' + 1 := ⟨k - 1, by omega⟩
      have := l0_end k' (bys ([UInt8.ofNat (48 + u)] ++ l)) b (by rw [bys_size]; simp; omega)
      rw [Lib.decDigits_one h10]
      exact this
    · rw [Lib.nDigits_big h10] at h2 h3
      rw [l0_pos b k (u / 10) ([UInt8.ofNat (48 + u % 10)] ++ l) (by omega) (by omega) (by omega) (by simp; omega)]
      have e : Lib.decDigits u = Lib.decDigits (u / 10) ++ [UInt8.ofNat (48 + u % 10)] := by rw [Lib.decDigits, dif_neg h10]
      rw [e]
      simp
theorem l0_neg (b : Bool) : ∀ (k u : Nat) (l : List UInt8), 0 < u → u ≤ 9223372036854775807 → Lib.nDigits u + 1 ≤ k → l.length + Lib.nDigits u ≤ 20 →
    spec_l2Num.l0 k (-(u : Int)) (bys l) b = some (if b = true then bys [45] ++ bys (Lib.decDigits u ++ l) else bys (Lib.decDigits u ++ l))
  | 0, u, l, _, _, h, _ => by omega
  | k + 1, u, l, h0, h1, h2, h3 => by
    have t1 : Int.tmod (-(u : Int)) 10 = -((u % 10 : Nat) : Int) := by rw [Int.neg_tmod]; rfl
    have t2 : Int.tdiv (-(u : Int)) 10 = -((u / 10 : Nat) : Int) := by rw [Int.neg_tdiv]; rfl
    have hd1 : 1 ≤ Lib.nDigits u := by
      by_cases h10 : u < 10
      · rw [Lib.nDigits_small h10]; omega
      · rw [Lib.nDigits_big h10]; omega
    have hstep : spec_l2Num.l0 (k + 1) (-(u : Int)) (bys l) b = spec_l2Num.l0 k (-((u / 10 : Nat) : Int)) (bys ([UInt8.ofNat (48 + u % 10)] ++ l)) b := by
      simp only [spec_l2Num.l0, t1, t2]
      rw [if_neg (by omega), w64 (-((u / 10 : Nat) : Int)) (by omega)]
      by_cases hz : u % 10 = 0
      · rw [if_neg (by omega), w64 _ (by omega)]
        simp only [Option.bind_some]
        have e : (48 + -((u % 10 : Nat) : Int)) = 48 + ((u % 10 : Nat) : Int) := by omega
        rw [e, one_digit _ (Nat.mod_lt _ (by omega)), bys_append, bys_size, bys_size, if_pos (by simp only [List.length_singleton]; omega)]
      · rw [if_pos (by omega), w64 (- -((u % 10 : Nat) : Int)) (by omega), w64 _ (by omega)]
        simp only [Option.bind_some]
        have e : (48 + - -((u % 10 : Nat) : Int)) = 48 + ((u % 10 : Nat) : Int) := by omega
        rw [e, one_digit _ (Nat.mod_lt _ (by omega)), bys_append, bys_size, bys_size, if_pos (by simp only [List.length_singleton]; omega)]
    rw [hstep]
    by_cases h10 : u < 10
    · have e0 : u / 10 = 0 := by omega
      have em : u % 10 = u := by omega
      rw [e0, em]
      rw [Lib.nDigits_small h10] at h2 h3
      obtain ⟨k', rfl⟩ : ∃ k', k = k' + 1 := ⟨k - 1, by omega⟩
      have := l0_end k' (bys ([UInt8.ofNat (48 + u)] ++ l)) b (by rw [bys_size]; simp; omega)
      rw [Lib.decDigits_one h10]
      exact this
    · rw [Lib.nDigits_big h10] at h2 h3
      rw [l0_neg b k (u / 10) ([UInt8.ofNat (48 + u % 10)] ++ l) (by omega) (by omega) (by omega) (by simp; omega)]
      have e : Lib.decDigits u = Lib.decDigits (u / 10) ++ [UInt8.ofNat (48 + u % 10)] := by rw [Lib.decDigits, dif_neg h10]
      rw [e]
      simp
theorem numB_nat (u : Nat) : numB (u : Int) = bys (Lib.decDigits u) := by unfold numB bys; rw [Lib.itoa_nonneg]
theorem numB_neg (u : Nat) (h : 1 ≤ u) : numB (-(u : Int)) = bys [45] ++ bys (Lib.decDigits u) := by rw [bys_append]; unfold numB bys; rw [Lib.itoa_neg u h]; rfl
theorem numB_size (u : Nat) (h : u < 18446744073709551616) : (numB (u : Int)).size ≤ 20 := by rw [numB_nat, bys_size, Lib.decDigits_length]; exact nDigits_le h
theorem l2Num_nat (k u : Nat) (hk : 30 ≤ k) (h : u ≤ 9223372036854775807) : spec_l2Num.f k (u : Int) = some (numB (u : Int)) := by
  unfold spec_l2Num.f
  have hd := nDigits_le (u := u) (by omega)
  by_cases h0 : u = 0
  · subst h0
    rw [if_pos (by rfl), numB_nat, Lib.decDigits_one (by omega)]
    rfl
  · rw [if_neg (by omega)]
    have e : decide ((u : Int) < 0) = false := decide_eq_false (by omega)
    have := l0_pos false k u [] (by omega) h (by omega) (by simpa using hd)
    have hb : (⟨#[]⟩ : ByteArray) = bys [] := rfl
    rw [e, numB_nat, hb]
    simpa using this
theorem l2Num_neg (k u : Nat) (hk : 30 ≤ k) (h0 : 1 ≤ u) (h : u ≤ 9223372036854775807) : spec_l2Num.f k (-(u : Int)) = some (numB (-(u : Int))) := by
  unfold spec_l2Num.f
  have hd := nDigits_le (u := u) (by omega)
  rw [if_neg (by omega)]
  have e : decide (-(u : Int) < 0) = true := decide_eq_true (by omega)
  have := l0_neg true k u [] (by omega) h (by omega) (by simpa using hd)
  have hb : (⟨#[]⟩ : ByteArray) = bys [] := rfl
  rw [e, numB_neg u h0, hb]
  simpa using this
theorem digits_in (n : Int) (h : -9223372036854775808 ≤ n ∧ n ≤ 9223372036854775807) : impl_digitsOf.f n = some (numB n) := by
  unfold impl_digitsOf.f strconv_Itoa_11.f
  rw [if_pos h]
  rfl
theorem fmtU (u : Nat) (h : u < 18446744073709551616) : strconv_FormatUint_12.f (u : Int) 10 = some (numB (u : Int)) := by
  unfold strconv_FormatUint_12.f
  rw [if_pos ⟨rfl, by omega, by omega⟩]
end Go.Proofs.YtdmhdnagaoiclaaDoor.PFnExactUnitText
