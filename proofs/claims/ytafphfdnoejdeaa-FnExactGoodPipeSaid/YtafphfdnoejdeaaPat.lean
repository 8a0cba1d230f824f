/- What of a pattern's text the program and the reference ask alike: a backslash stands ahead of a star, a question mark, a bar or another one. -/
import Derived.Test.YtafphfdnoejdeaaWWords
namespace Go.Proofs.Ytafphfdnoejdeaa.Pat
open Go.RowKit Go.Proofs.YtafphfdnoejdeaaW.PrintWords
/-- From place i on, with n rounds: each backslash is followed by one of the four. -/
def okAt (p : ByteArray) : Nat → Int → Bool
  | 0, _ => false
  | n + 1, i => if i < (p.size : Int) then (if bt p i = 92 then (if i + 1 = (p.size : Int) then false else if bt p (i + 1) = 42 ∨ bt p (i + 1) = 63 ∨ bt p (i + 1) = 124 ∨ bt p (i + 1) = 92 then okAt p n (i + 2) else false) else okAt p n (i + 1)) else true
def okP (p : ByteArray) : Bool := okAt p (p.size + 1) 0
theorem wrap_le (i : Int) (h0 : 0 ≤ i) (h : i ≤ 1000000) : wrap64 i = i := by unfold wrap64; omega
/-- An opaque value of one cell. -/
abbrev SV := { v : Value // v.oneCell' = true }
abbrev kV : Kd SV := Kd.scalar (fun x : SV => x.1) (fun x => x.2)
theorem slice_one (A : Option Addr) (n c : Nat) : (Value.slice A n c).oneCell' = true := by first | rfl | (cases A <;> rfl)
end Go.Proofs.Ytafphfdnoejdeaa.Pat
