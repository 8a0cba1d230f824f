/- A set of texts, kept in a map of the call's own whose elements are bools: its two laws. Of no program. -/
import Derived.Maps.Views
import Derived.Maps.OwnSet
import Derived.StringKeys
import Derived.Lib.Strings
namespace Go.Proofs.Ytpnldoegchjmmaa.TxtSet
open Go.Maps
/-- How such a map's elements are read. -/
def RB : Value → Option (DataW Unit × List MemPlace)
  | .bool b => some (.lit (.bool b), [])
  | _ => none
theorem RB_inv {v : Value} {b : Bool} {ps : List MemPlace} (h : RB v = some (.lit (.bool b), ps)) : v = .bool b := by
  cases v <;> simp [RB] at h
  rw [h.1]
structure SetOk (D : DataW Unit) (L : List (List UInt8)) : Prop where
  isMap : IsMap D
  has : ∀ u, D.atKey (.string u) (.lit (.bool false)) = .lit (.bool (decide (u ∈ L)))
theorem SetOk.nil : SetOk (.map []) [] := ⟨⟨[], rfl⟩, fun u => by first | rfl | (simp; rfl)⟩
theorem SetOk.put {D : DataW Unit} {L : List (List UInt8)} (h : SetOk D L) (u : List UInt8) : SetOk (D.put (.string u) (.lit (.bool true))) (L ++ [u]) := by
  refine ⟨h.isMap.put _ _, fun v => ?_⟩
  by_cases e : v = u
  · subst e
    rw [atKey_put_same h.isMap (by trivial), decide_eq_true (by simp)]
  · rw [atKey_put_other (fun he => e (by injection he)), h.has v]
    congr 2
    exact decide_eq_decide.2 (by simp [e])
theorem key_text {P : Program} {k : TypeId} (hk : P.underlying k = some .string) (s : ByteArray) (hs : s.size ≤ 1000000) : keyOf P k (.string s) = some (.string s.data.toList) := by
  have h : s.size ≤ maxLen := by unfold maxLen; omega
  simp [keyOf, hk, mapKey, h]
/-- 'set[s]'. -/
theorem wpList_look {P : Program} (w : World) {ops : Array Oper} {rest : List Oper} {o : Oper} {a : Act} {Q : Exit → Act → World → Prop}
    (hg : o.guard = none) (m x : Operand) (t : TypeId) (hop : o.op = Op.lookup t m x false) (k e : TypeId) (hk : P.underlying k = some .string) (ht : P.underlying t = some (.map k e)) (hz : ∀ w, (zeroValue e).run P w = .ok (.bool false) w) (b n : Nat) (D : DataW Unit) (L : List (List UInt8))
    (hm : a.eval m = .map (some b)) (hown : w.ownsMap P k RB b n D) (hs : SetOk D L) (s : ByteArray) (hz1 : s.size ≤ 1000000) (hx : a.eval x = .string s)
    (hK : wpList P ops Q rest (a.put o.dst (.bool (decide (s.data.toList ∈ L)))) w) : wpList P ops Q (o :: rest) a w := by
  refine wpList_plain hg fun K' hK' => ?_
  obtain ⟨v, ps, hrun, hv⟩ := hown.lookup (string_keyed hk) ht (hz w) (zd := .lit (.bool false)) (zp := []) rfl (key_text hk s hz1)
  rw [hs.has] at hv
  obtain rfl := RB_inv hv
  unfold Oper.wp
  simp [execOp, hop, hm, hx, hrun, Result.andThen]
  exact hK' _ _ (by simpa using hK)
/-- 'set[s] = true'. -/
theorem wpList_add {P : Program} (w : World) {ops : Array Oper} {rest : List Oper} {o : Oper} {a : Act} {Q : Exit → Act → World → Prop}
    (hg : o.guard = none) (m x v : Operand) (t : TypeId) (hop : o.op = Op.mapUpdate t m x v) (k e : TypeId) (hk : P.underlying k = some .string) (ht : P.underlying t = some (.map k e)) (b n : Nat) (D : DataW Unit) (L : List (List UInt8))
    (hm : a.eval m = .map (some b)) (hown : w.ownsMap P k RB b n D) (hn : n < 1000000) (hs : SetOk D L) (s : ByteArray) (hz1 : s.size ≤ 1000000) (hx : a.eval x = .string s) (hv : a.eval v = .bool true)
    (hK : ∀ w' D', w'.ownsMap P k RB b (n + 1) D' → SetOk D' (L ++ [s.data.toList]) → w.grownBy w' (some b) → wpList P ops Q rest (a.put o.dst undef) w') : wpList P ops Q (o :: rest) a w :=
  wpList_mapUpdate_own w hg m x v t hop k e (string_keyed hk) ht RB b n D hm hown (by unfold maxLen; omega) _ _ _ hx hv (key_text hk s hz1) (.lit (.bool true)) [] rfl (fun w' h1 h2 => hK w' _ h1 (hs.put _) h2)
end Go.Proofs.Ytpnldoegchjmmaa.TxtSet
