/- '>', '>=' and '<=' on texts, in the shape in which the printed functions ask for them. Of no program. -/
import Derived.Laws.Strings
namespace Go.Proofs.YthcamcmjafhehaaDoor.Cmp
theorem less_self : ∀ a : List UInt8, Op.bytesLess a a = false
  | [] => rfl
  | x :: xs => by
    simp only [Op.bytesLess, beq_self_eq_true, Bool.true_and, less_self xs, Bool.or_false]
    exact decide_eq_false (UInt8.lt_irrefl x)
theorem less_flip : ∀ a b : List UInt8, (!(Op.bytesLess a b || a == b)) = Op.bytesLess b a
  | [], [] => rfl
  | [], _ :: _ => rfl
  | _ :: _, [] => rfl
  | a :: x, b :: y => by
    have ih := less_flip x y
    simp only [Op.bytesLess]
    by_cases h1 : a.toNat < b.toNat
    · have e1 : a < b := h1
      have e2 : ¬ b < a := fun h => by have : b.toNat < a.toNat := h; omega
      have e3 : (b == a) = false := by
        rw [beq_eq_false_iff_ne]
        intro e
        subst e
        omega
      rw [decide_eq_true e1, decide_eq_false e2, e3]
      rfl
    · by_cases h2 : b.toNat < a.toNat
      · have e1 : b < a := h2
        have e2 : ¬ a < b := fun h => h1 h
        have e3 : (a == b) = false := by
          rw [beq_eq_false_iff_ne]
          intro e
          subst e
          omega
        have e4 : ((a :: x) == (b :: y)) = false := by
          rw [beq_eq_false_iff_ne]
          intro e
          injection e with e _
          subst e
          omega
        rw [decide_eq_true e1, decide_eq_false e2, e3, e4]
        rfl
      · have e : a = b := UInt8.toNat_inj.1 (by omega)
        subst e
        rw [decide_eq_false (UInt8.lt_irrefl a), beq_self_eq_true, Bool.true_and, Bool.true_and, Bool.false_or, Bool.false_or, ← ih]
        congr 2
        rw [Bool.eq_iff_iff]
        simp
theorem str_gtr (t : TypeId) (a b : ByteArray) : binOp .gtr t (.string a) (.string b) = pure (.bool (Op.bytesLess b.toList a.toList)) := by
  rw [← less_flip]
  simp [binOp, Op.stringOp]
theorem str_geq (t : TypeId) (a b : ByteArray) : binOp .geq t (.string a) (.string b) = pure (.bool !(Op.bytesLess a.toList b.toList)) := by simp [binOp, Op.stringOp]
theorem str_leq (t : TypeId) (a b : ByteArray) : binOp .leq t (.string a) (.string b) = pure (.bool !(Op.bytesLess b.toList a.toList)) := by
  rw [← less_flip]
  simp [binOp, Op.stringOp]
end Go.Proofs.YthcamcmjafhehaaDoor.Cmp
