/- The square root of a number that is not below 0, in floating point, made whole: not below 0 and at most 2^53. Of no program. -/
import Ieee.Arith
import GoSem.Core.Float
namespace Go.Proofs.Ytedfbdholjjflaa.RootMath
open Ieee

theorem lt_pow {a b m : Nat} (h : a < 2 ^ b) (hb : b ≤ m) : a < 2 ^ m := Nat.lt_of_lt_of_le h (Nat.pow_le_pow_right (by decide) hb)

theorem cut_le (way : Toward) (neg : Bool) (n drop k : Nat) (h : n < 2 ^ (k + min drop (n.log2 + 2))) : way.cut neg n drop ≤ 2 ^ k := by
  unfold Toward.cut
  have hlow : n / (1 <<< min drop (n.log2 + 2)) < 2 ^ k := by
    rw [Nat.shiftLeft_eq, Nat.one_mul, Nat.div_lt_iff_lt_mul (Nat.two_pow_pos _), ← Nat.pow_add]
    exact h
  dsimp only
  generalize n / (1 <<< min drop (n.log2 + 2)) = low at hlow ⊢
  have hb : ∀ b : Bool, low + b.toNat ≤ 2 ^ k := fun b => by cases b <;> simp <;> omega
  exact hb _

theorem kept_le (mag : Nat) (place last : Int) (hm : mag ≠ 0) (h : place + mag.log2 - 52 ≤ last) : Toward.even.cut false (mag <<< (place - last).toNat) (last - place).toNat ≤ 2 ^ 53 := by
  refine cut_le _ _ _ _ _ ?_
  have h1 : mag < 2 ^ (mag.log2 + 1) := Nat.lt_log2_self
  have h2 : (mag <<< (place - last).toNat).log2 = mag.log2 + (place - last).toNat := by
    rw [Nat.shiftLeft_eq]
    have hne : mag * 2 ^ (place - last).toNat ≠ 0 := Nat.mul_ne_zero hm (Nat.ne_of_gt (Nat.two_pow_pos _))
    refine (Nat.log2_eq_iff hne).2 ⟨?_, ?_⟩
    · rw [Nat.pow_add]
      exact Nat.mul_le_mul_right _ (Nat.log2_self_le hm)
    · rw [show mag.log2 + (place - last).toNat + 1 = mag.log2 + 1 + (place - last).toNat by omega, Nat.pow_add]
      exact Nat.mul_lt_mul_of_pos_right h1 (Nat.two_pow_pos _)
  rw [h2, Nat.shiftLeft_eq]
  have h3 : mag * 2 ^ (place - last).toNat < 2 ^ (mag.log2 + 1 + (place - last).toNat) := by
    rw [Nat.pow_add]
    exact Nat.mul_lt_mul_of_pos_right h1 (Nat.two_pow_pos _)
  refine lt_pow h3 ?_
  omega

theorem arith {q kept E : Nat} (hl : q ≤ E + 1022) (hk : kept ≤ 2 ^ 53) : q * 2 ^ 52 + kept ≤ (E + 1024) * 2 ^ 52 := by
  have h1 := Nat.mul_le_mul_right (2 ^ 52) hl
  have h2 : (E + 1024) * 2 ^ 52 = (E + 1022) * 2 ^ 52 + 2 ^ 53 := by
    rw [show E + 1024 = E + 1022 + 2 from rfl, Nat.add_mul (E + 1022) 2]
  rw [h2]
  exact Nat.add_le_add h1 hk

theorem word_pos (r : Nat) : double.word false r = r := by
  unfold Format.word
  rw [if_neg (by decide)]

/-- The rung of a number below 2^(E + 1). -/
theorem nearest_rung (mag : Nat) (place : Int) (E : Nat) (h : mag ≠ 0 → place + mag.log2 ≤ E) (hE : E ≤ 62) : ∃ r, double.nearest false mag place = r ∧ r ≤ (E + 1024) * 2 ^ 52 := by
  refine ⟨_, rfl, ?_⟩
  unfold Format.nearest
  by_cases hm : mag = 0
  · rw [if_pos hm]
    simp [Format.word]
  · rw [if_neg hm]
    have h := h hm
    have hlp : double.leastPlace = -1074 := by decide
    have hb : double.binade = 2 ^ 52 := rfl
    have hf : double.fractionBits = 52 := rfl
    dsimp only
    rw [hlp, hb, hf]
    have hk := kept_le mag place (max (place + mag.log2 - (52 : Nat)) (-1074)) hm (by omega)
    generalize Toward.even.cut false (mag <<< (place - max (place + mag.log2 - (52 : Nat)) (-1074)).toNat) (max (place + mag.log2 - (52 : Nat)) (-1074) - place).toNat = kept at hk ⊢
    rw [word_pos]
    refine Nat.le_trans (Nat.min_le_left _ _) ?_
    have hl : (max (place + mag.log2 - (52 : Nat)) (-1074) - -1074).toNat ≤ E + 1022 := by omega
    generalize (max (place + mag.log2 - (52 : Nat)) (-1074) - -1074).toNat = q at hl ⊢
    exact arith hl hk

/-- What a rung stands for. -/
theorem read_rung (r E : Nat) (h : r ≤ (E + 1024) * 2 ^ 52) (hE : E ≤ 62) : ∃ m i, double.read r = .number false m i ∧ m < 2 ^ 53 ∧ i + m.log2 ≤ E + 1 ∧ i ≤ (E : Int) - 51 := by
  have hlp : double.leastPlace = -1074 := by decide
  have hs : double.signWeight = 2 ^ 63 := rfl
  have hb : double.binade = 2 ^ 52 := rfl
  have hi : double.infRung = 2047 * 2 ^ 52 := rfl
  have e1 : r / double.signWeight = 0 := by rw [hs]; omega
  have e2 : r % double.signWeight = r := by rw [hs]; omega
  unfold Format.read
  rw [e1, e2, hb, hi, hlp]
  dsimp only
  by_cases h1 : r < 2 ^ 52
  · rw [if_pos h1]
    refine ⟨_, _, rfl, by omega, ?_, by omega⟩
    have : r.log2 < 53 := by
      by_cases h0 : r = 0
      · subst h0; decide
      · exact (Nat.log2_lt h0).2 (by omega)
    omega
  · rw [if_neg h1, if_pos (by omega)]
    refine ⟨_, _, rfl, by omega, ?_, by omega⟩
    have : (2 ^ 52 + r % 2 ^ 52).log2 < 53 := (Nat.log2_lt (by omega)).2 (by omega)
    omega

theorem rootFrom_sq (n : Nat) : ∀ (todo root : Nat), root * root ≤ n → Datum.rootFrom n todo root * Datum.rootFrom n todo root ≤ n
  | 0, _, h => h
  | todo + 1, root, h => by
    unfold Datum.rootFrom
    refine rootFrom_sq n todo _ ?_
    split
    · assumption
    · exact h

theorem root_bound (m : Nat) (i : Int) (h : m ≠ 0 → i + m.log2 ≤ 63) : ∃ M p, (Datum.number false m i).root 54 = some (.number false M p) ∧ (M ≠ 0 → p + M.log2 ≤ 31) := by
  unfold Datum.root
  by_cases hm : m = 0
  · subst hm
    exact ⟨0, i, rfl, fun h => absurd rfl h⟩
  · have h := h hm
    dsimp only
    rw [if_neg hm, if_neg (by decide)]
    generalize (2 * 54 - m.log2 : Nat) = A
    have heven : (i - ((A + ((i - (A : Int)) % 2).toNat : Nat) : Int)) % 2 = 0 := by
      rcases (show (i - (A : Int)) % 2 = 0 ∨ (i - (A : Int)) % 2 = 1 by omega) with hz | hz
      · rw [hz]
        simpa using hz
      · rw [hz]
        show (i - ((A + 1 : Nat) : Int)) % 2 = 0
        omega
    generalize A + ((i - (A : Int)) % 2).toNat = more at heven ⊢
    have hsq := rootFrom_sq (m <<< more) ((m <<< more).log2 / 2 + 1) 0 (Nat.zero_le _)
    generalize Datum.rootFrom (m <<< more) ((m <<< more).log2 / 2 + 1) 0 = whole at hsq ⊢
    refine ⟨_, _, rfl, fun _ => ?_⟩
    have hbit : ∀ b : Bool, b.toNat ≤ 1 := fun b => by cases b <;> simp
    have hbit := hbit (whole * whole != m <<< more)
    generalize (whole * whole != m <<< more).toNat = bit at hbit ⊢
    by_cases h0 : whole = 0
    · subst h0
      have : (2 * 0 + bit).log2 = 0 := by
        have : bit = 0 ∨ bit = 1 := by omega
        rcases this with rfl | rfl <;> decide
      omega
    · have hlm : (2 * whole + bit).log2 < whole.log2 + 2 := by
        refine (Nat.log2_lt (by omega)).2 ?_
        have := @Nat.lt_log2_self whole
        rw [show whole.log2 + 2 = whole.log2 + 1 + 1 from rfl, Nat.pow_succ]
        omega
      have hp : 2 ^ (whole.log2 + whole.log2) < 2 ^ (m.log2 + 1 + more) := by
        have h1 : 2 ^ whole.log2 ≤ whole := Nat.log2_self_le h0
        have h2 : 2 ^ (whole.log2 + whole.log2) ≤ whole * whole := by
          rw [Nat.pow_add]
          exact Nat.mul_le_mul h1 h1
        have h3 : m <<< more < 2 ^ (m.log2 + 1 + more) := by
          rw [Nat.shiftLeft_eq, Nat.pow_add]
          exact Nat.mul_lt_mul_of_pos_right Nat.lt_log2_self (Nat.two_pow_pos _)
        omega
      have hlt := (Nat.pow_lt_pow_iff_right (by decide : 1 < 2)).1 hp
      omega

/-- The root of a number as the program takes it. -/
theorem root_float (n : Int) (h0 : 0 ≤ n) (h1 : n ≤ 9223372036854775807) :
    ∃ b r, FloatKind.f64.format.sqrt (FloatKind.f64.nearest n) = some b ∧ (FloatKind.f64.decode b).toInt .zero = some r ∧ 0 ≤ r ∧ r ≤ 9007199254740992 := by
  have hn : decide (n < 0) = false := decide_eq_false (by omega)
  have hx : FloatKind.f64.nearest n = double.nearest false n.natAbs 0 := by
    show double.write (.number (decide (n < 0)) n.natAbs 0) = _
    rw [hn]
    rfl
  obtain ⟨x, hxr, hxb⟩ := nearest_rung n.natAbs 0 62 (fun hm => by
    have : n.natAbs.log2 < 63 := (Nat.log2_lt hm).2 (by omega)
    omega) (by omega)
  rw [hx, hxr]
  obtain ⟨m, i, hread, _, hlog, _⟩ := read_rung x 62 hxb (by omega)
  obtain ⟨M, p, hroot, hM⟩ := root_bound m i (fun _ => by omega)
  have hs : FloatKind.f64.format.sqrt x = some (double.nearest false M p) := by
    show ((double.read x).root 54).map double.write = _
    rw [hread, hroot]
    rfl
  obtain ⟨y, hyr, hyb⟩ := nearest_rung M p 31 hM (by omega)
  rw [hs, hyr]
  obtain ⟨m2, i2, hread2, hm2, _, hi2⟩ := read_rung y 31 hyb (by omega)
  refine ⟨y, ((Toward.zero.cut false (m2 <<< i2.toNat) (-i2).toNat : Nat) : Int), rfl, ?_, ?_, ?_⟩
  · show (double.read y).toInt .zero = _
    rw [hread2]
    show some (signed false (Toward.zero.cut false (m2 <<< i2.toNat) (-i2).toNat) 0) = _
    simp [signed]
  · omega
  · have e : i2.toNat = 0 := by omega
    have := cut_le .zero false (m2 <<< i2.toNat) (-i2).toNat 53 (by
      rw [e]
      exact lt_pow (b := 53) (by rw [Nat.shiftLeft_zero]; exact hm2) (Nat.le_add_right _ _))
    have h53 : (2 : Nat) ^ 53 = 9007199254740992 := by decide
    omega
end Go.Proofs.Ytedfbdholjjflaa.RootMath
