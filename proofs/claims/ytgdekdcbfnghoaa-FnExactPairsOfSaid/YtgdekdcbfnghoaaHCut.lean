/- strings.Cut at "=". -/
import Derived.Test.YtgdekdcbfnghoaaPFnExactPairsOfx1
import Derived.Lib.Bytealg
import Derived.Lib.Strings
import Derived.Shelf.Abstract
namespace Go.Proofs.Ytgdekdcbfnghoaa.PFnExactPairsOf
open Go.RowKit Go.Shelf Go.Proofs.YtgdekdcbfnghoaaW.PrintWords Go.Proofs.YtgdekdcbfnghoaaW.PrintLast Go.Proofs.YtgdekdcbfnghoaaW.PrintMore
set_option linter.unusedVariables false
set_option linter.unusedSimpArgs false
def eqIdx (s : ByteArray) : Int := Lib.indexByte s.data.toList 61
def cutM (s : ByteArray) : ByteArray × ByteArray × Bool := if 0 ≤ eqIdx s then (s.extract 0 (eqIdx s).toNat, s.extract ((eqIdx s).toNat + 1) s.size, true) else (s, ⟨#[]⟩, false)
theorem idxB_lt : ∀ (l : List UInt8) (c : UInt8), Lib.indexByte l c < (l.length : Int) ∨ Lib.indexByte l c = -1
  | [], _ => Or.inr rfl
  | b :: l, c => by
    unfold Lib.indexByte
    split
    · exact Or.inl (by rw [List.length_cons]; omega)
    · split
      · exact Or.inr rfl
      · rename_i h
        rcases idxB_lt l c with h1 | h1
        · exact Or.inl (by rw [List.length_cons]; omega)
        · rw [h1] at h; exact absurd rfl h
theorem eqIdx_range (s : ByteArray) : -1 ≤ eqIdx s ∧ (eqIdx s < (s.size : Int)) := by
  have h1 := Lib.indexByte_ge s.data.toList 61
  have h2 := idxB_lt s.data.toList 61
  have h3 : s.data.toList.length = s.size := by rw [Array.length_toList]; rfl
  unfold eqIdx
  omega
set_option maxHeartbeats 1000000 in
set_option maxRecDepth 100000 in
theorem idx0_of (s : ByteArray) (c : Int) (w : World) :
    Calls Try.prog 57 #[.string s, .int .u8 c] w fun e w' => e = .returned (.int .i64 (Lib.indexByte s.data.toList c.toNat.toUInt8)) ∧ w' = w := by
  go_enter Try.func57, Try.ntmps57
  go_wp2
  rw [run_callFunc_extern Try.func66 (by kernel_rfl) (by kernel_rfl) (by kernel_rfl) (e := Extern.BytealgIndexByte.indexByte) (by kernel_rfl), Lib.run_indexByteString]
  simp only [Result.andThen]
  rw [Oper.upon_value]
  go_wp2
  go_ret
  exact ⟨rfl, rfl⟩
set_option maxHeartbeats 2000000 in
set_option maxRecDepth 100000 in
theorem idx1_of (s : ByteArray) (w : World) :
    Calls Try.prog 44 #[.string s, .string ⟨#[61]⟩] w fun e w' => e = .returned (.int .i64 (eqIdx s)) ∧ w' = w := by
  have HI := Aside0.mk (fun W => idx0_of s 61 W)
  have e : Lib.indexByte s.data.toList ((61 : Int).toNat.toUInt8) = eqIdx s := rfl
  rw [e] at HI
  generalize hz : eqIdx s = z at HI ⊢
  have HZ := Aside0.mk hz
  clear hz e
  go_enter Try.func44, Try.ntmps44
  go_wp2_with (go_at_call 57; refine (HI.out _).mono ?_; rintro e w' ⟨rfl, rfl⟩)
  · have h : ([61] == s.toList) = true := by assumption
    go_ret
    refine ⟨?_, rfl⟩
    have e : s.data.toList = [61] := by rw [← Lib.toList_data]; exact (beq_iff_eq.1 h).symm
    rw [← HZ.out]
    unfold eqIdx
    rw [e]
    rfl
  · go_ret
    exact ⟨rfl, rfl⟩
set_option maxHeartbeats 2000000 in
set_option maxRecDepth 100000 in
theorem cut1_of (s : ByteArray) (hs : s.size ≤ 1000000) (w : World) :
    Calls Try.prog 36 #[.string s, .string ⟨#[61]⟩] w fun e w' => e = .returned (.tuple #[.string (cutM s).1, .string (cutM s).2.1, .bool (cutM s).2.2]) ∧ ∃ n, w' = w.drewN n := by
  have HI := Aside0.mk (fun W => idx1_of s W)
  obtain ⟨r1, r2⟩ := eqIdx_range s
  by_cases h : 0 ≤ eqIdx s
  · have e : cutM s = (s.extract 0 (eqIdx s).toNat, s.extract ((eqIdx s).toNat + 1) s.size, true) := if_pos h
    rw [e]
    obtain ⟨i, hi⟩ := Int.eq_ofNat_of_zero_le h
    rw [hi] at HI r2 ⊢
    have c1 : (0 : Int) ≤ ↑i := by omega
    have c2 : (↑i : Int) ≤ ↑s.size := by omega
    have c3 : (0 : Int) ≤ ↑i + 1 := by omega
    have c4 : (↑i + 1 : Int) ≤ ↑s.size := by omega
    clear e h hi r1 r2
    dsimp only [Int.toNat_natCast]
    go_enter Try.func36, Try.ntmps36
    go_wp2_with (go_at_call 44; refine (HI.out _).mono ?_; rintro e w' ⟨rfl, rfl⟩)
    go_region
    go_wp2
    go_ret3
    exact ⟨by first | rfl | simp, 1, rfl⟩
  · have e : cutM s = (s, ⟨#[]⟩, false) := if_neg h
    rw [e]
    have hz : eqIdx s = -1 := by omega
    rw [hz] at HI
    clear e h hz r1 r2
    go_enter Try.func36, Try.ntmps36
    go_wp2_with (go_at_call 44; refine (HI.out _).mono ?_; rintro e w' ⟨rfl, rfl⟩)
    go_ret3
    exact ⟨rfl, 0, rfl⟩
theorem cut_of (s : ByteArray) (hs : s.size ≤ 1000000) (w : World) :
    Calls Try.prog 25 #[.string s, .string ⟨#[61]⟩] w fun e w' => e = .returned (.tuple #[.string (cutM s).1, .string (cutM s).2.1, .bool (cutM s).2.2]) ∧ Drawn0 w w' := by
  have HI := Aside0.mk (fun W => cut1_of s hs W)
  generalize (cutM s).1 = a at HI ⊢
  generalize (cutM s).2.1 = b at HI ⊢
  generalize (cutM s).2.2 = c at HI ⊢
  go_enter Try.func25, Try.ntmps25
  go_wp2_with (go_at_call 36; refine (HI.out _).mono ?_; rintro e w' ⟨rfl, n, rfl⟩)
  go_ret3
  exact ⟨rfl, ⟨n, rfl⟩⟩
end Go.Proofs.Ytgdekdcbfnghoaa.PFnExactPairsOf
