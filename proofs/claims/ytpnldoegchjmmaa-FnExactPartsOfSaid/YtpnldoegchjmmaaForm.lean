/- The program's reading of a form, in plain words; the small functions that it calls. -/
import Derived.Test.YtpnldoegchjmmaaPrtFnExactPartsOf
import Derived.Test.YtpnldoegchjmmaaPFnExactPartsOfx1
import Derived.Test.YtpnldoegchjmmaaPFnExactPartsOfx2
namespace Go.Proofs.Ytpnldoegchjmmaa.Form
open Go.RowKit Go.Proofs.Ytpnldoegchjmmaa.PFnExactPartsOf Go.Proofs.YtpnldoegchjmmaaW.PrintWords Go.Proofs.YtpnldoegchjmmaaW.PrintLast Go.Proofs.Ytpnldoegchjmmaa.Evs Go.Proofs.Ytpnldoegchjmmaa.AFnExactPartsOf Go.Proofs.Ytpnldoegchjmmaa.PrtFnExactPartsOf
set_option linter.unusedVariables false
abbrev SHl := S49
abbrev kHl : Kd SHl := k49
theorem kHl_mkM (w : World) (base : Nat) (ok : Nat → Prop) (x : SHl) : kHl.M w base ok x [.string x.f0, .string x.f1] := ⟨[.string x.f0], [.string x.f1], rfl, rfl, rfl⟩
/-- Where the word at a place ends. -/
def wEndD (q : ByteArray) : Nat → Nat → Nat
  | 0, j => j
  | d + 1, j => if wordC (bt q (j : Int)) then wEndD q d (j + 1) else j
def wEnd (q : ByteArray) : Nat := wEndD q q.size 0
theorem wEndD_le (q : ByteArray) : ∀ d j, j ≤ wEndD q d j ∧ wEndD q d j ≤ j + d
  | 0, j => ⟨Nat.le_refl _, Nat.le_refl _⟩
  | d + 1, j => by
    unfold wEndD
    split
    · have := wEndD_le q d (j + 1)
      omega
    · omega
theorem wEnd_le (q : ByteArray) : wEnd q ≤ q.size := by
  have := (wEndD_le q q.size 0).2
  unfold wEnd
  omega
def wordM (q : ByteArray) : ByteArray × ByteArray := (q.extract 0 (wEnd q), q.extract (wEnd q) q.size)
theorem wordOf_loop (q : ByteArray) (hq : q.size ≤ 1048576) : ∀ (d j : Nat), j + d = q.size → EvP (fun k => impl_wordOf.l0 k q (j : Int)) (fun r => r = (q.extract 0 (wEndD q d j), q.extract (wEndD q d j) q.size)) := by
  intro d
  induction d with
  | zero =>
    intro j h
    refine EvP.step ?_
    simp only [impl_wordOf.l0]
    exact EvP.neg (by omega) (EvP.pos (by omega) (EvP.pos (by omega) (EvP.now rfl)))
  | succ d ih =>
    intro j h
    refine EvP.step ?_
    simp only [impl_wordOf.l0, impl_wordByte_ev, Option.bind_some, wrap_succ (show j < q.size by omega) hq]
    refine EvP.pos (by omega) (EvP.pos (by omega) ?_)
    unfold wEndD
    cases wordC (bt q (j : Int)) with
    | true => exact EvP.pos rfl (by simpa using ih (j + 1) (by omega))
    | false => exact EvP.neg (by decide) (EvP.pos (by omega) (EvP.now rfl))
theorem wordOf_ev (q : ByteArray) (hq : q.size ≤ 1048576) : EvP (fun k => impl_wordOf.f k q) (fun r => r = wordM q) := by
  unfold impl_wordOf.f
  exact wordOf_loop q hq q.size 0 (by omega)
def gtB (q : ByteArray) : Bool := decide (1 ≤ q.size) && (bt q 0 == 62)
theorem bt_head (q : ByteArray) (h : 1 ≤ q.size) : q.data.toList = (q.data.toList.headD 0) :: q.data.toList.tail ∧ bt q 0 = ((q.data.toList.headD 0).toNat : Int) := by
  have hl : 0 < q.data.toList.length := by rw [Array.length_toList]; exact h
  have hs : 0 < q.size := h
  cases hq : q.data.toList with
  | nil => rw [hq] at hl; simp at hl
  | cons a t =>
    refine ⟨rfl, ?_⟩
    rw [← bt_at q 0 (by simpa using hs)]
    have : q.data.toList[0]? = some (q[0]'hs) := by rw [Array.getElem?_toList]; exact Array.getElem?_eq_getElem hs
    rw [hq] at this
    simp only [List.getElem?_cons_zero, Option.some.injEq] at this
    show ((q[0]'hs).toNat : Int) = (a.toNat : Int)
    rw [← this]
theorem hasPrefix_ev (q : ByteArray) : strings_HasPrefix.f q ⟨#[62]⟩ = some (gtB q) := by
  unfold strings_HasPrefix.f stringslite_HasPrefix.f gtB
  by_cases h : 1 ≤ q.size
  · have h1 : (q.size : Int) ≥ (((⟨#[62]⟩ : ByteArray).size : Nat) : Int) := by show (q.size : Int) ≥ ((1 : Nat) : Int); omega
    rw [if_pos h1, if_pos (by omega), if_pos h1, decide_eq_true h, Bool.true_and, Option.bind_some]
    congr 1
    show ((q.extract 0 1).toList == (⟨#[62]⟩ : ByteArray).toList) = _
    rw [Lib.toList_data, Lib.toList_data, Lib.extract_data]
    obtain ⟨e1, e2⟩ := bt_head q h
    rw [e1, e2]
    show (([q.data.toList.headD 0] : List UInt8) == [62]) = _
    generalize q.data.toList.headD 0 = a
    by_cases ha : a = 62
    · subst ha; rfl
    · rw [beq_eq_false_iff_ne.2 (by simpa using ha), eq_comm, beq_eq_false_iff_ne]
      intro hn
      have h62 : (62 : UInt8).toNat = 62 := rfl
      exact ha (UInt8.toNat_inj.1 (by omega))
  · rw [if_neg (by show ¬ (q.size : Int) ≥ ((1 : Nat) : Int); omega), decide_eq_false h]
    rfl
/-- From place x on, with n rounds: the text since the last hole, what has been read. -/
def formL (p : ByteArray) : Nat → Int → ByteArray → List SHl → List SHl × Bool
  | 0, _, _, _ => ([], false)
  | n + 1, x, t, out =>
    if x < (p.size : Int) then
      (if bt p x = 60 then
        (if (nameB (wordM (p.extract (x + 1).toNat p.size)).1 && gtB (wordM (p.extract (x + 1).toNat p.size)).2) = true then
          (if (decide ((wordM (p.extract (x + 1).toNat p.size)).1.data.toList ∈ out.map (fun h => h.f1.data.toList)) || (decide (t.toList = []) && decide (0 < out.length))) = true then ([], false)
           else formL p n (x + ((wordM (p.extract (x + 1).toNat p.size)).1.size + 1) + 1) ⟨#[]⟩ (out ++ [⟨t, (wordM (p.extract (x + 1).toNat p.size)).1⟩]))
         else formL p n (x + 1) (t ++ p.extract x.toNat (x + 1).toNat) out)
       else formL p n (x + 1) (t ++ p.extract x.toNat (x + 1).toNat) out)
    else (out ++ [⟨t, ⟨#[]⟩⟩], decide (0 < out.length))
def formM (p : ByteArray) : List SHl × Bool := if decide (p.toList = []) || !(decide (p.size ≤ 100) && printedB p) then ([], false) else formL p (p.size + 1) 0 ⟨#[]⟩ []
end Go.Proofs.Ytpnldoegchjmmaa.Form
